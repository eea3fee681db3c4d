/- A part of the proof that the statement holds. Conditions: none. -/
import Derived.WalkKit
import Derived.Below
import Derived.Deep.Quiet
import Derived.StillTail
import Derived.Maps.AppendAt
import Derived.Laws.OwnMore
import Derived.Maps.RangeRun
import Derived.ArgAppend
import Derived.Laws.CopyRow
open Array renaming ext'->yY,getD_eq_getD_getElem?->GU,getElem?_eq_some_iff->AK,size_push->RA,toList_map->AM
open Bool renaming and_eq_true->iv,false_eq_true->ve
open Go renaming Addr->aE,BinOp->t',Exit->iw,FuncId->mT,IntKind->AX,MapEntry->CH,Oper->cv,Operand->gu,Program->fk,TypeId->gv,TypeInfo->CU,Value->aA,World->bD,asIntOf->EV,eqGuard_at_int->KF,execOp->dD,loadCellsFrom->aAR,loadVar->V6,madeCells->tK,maxLen->eQ,resolve->u5,run_firstCells_some->aEQ,run_underlying->hg,storeCells->aj8,storeVar->aj9,typeInfo->Cn,undef->fS
open Go.Act renaming put->YK
open Go.Addr renaming add->M8,add_lit->alz,mk->oA
open Go.Builtin renaming append_->xF,firstCells->alH,lenOf->RC,len_->YS
open Go.Deferred renaming ofValue->JD
open Go.Instr renaming buildSlice->amb,fieldAt->amd,fill->Zb,indexAt->EE,loadAt->CC,storeAt->amg,sureAddr->ru
open Go.Next renaming value->anh
open Go.Op renaming intArith->ZA
open Go.Oper renaming upon_enter->J5,wp->CL
open Go.Region renaming before->fa,binds->sl
open Go.Result renaming andThen_ok->jc,ok->ant
open Go.Sem renaming run_bind->iT,run_pure->l3
open Go.Value renaming agg->Kd,ownBlock->Ht
open Go.World renaming cell?->NF
open Go.World.grownBy renaming refl->aIJ
open List renaming eq_nil_of_length_eq_zero->y7,flatten_cons->qN,getElem?_append->EF,getElem?_eq_none->l2,length_cons->iJ,map->JR,map_append->fw,map_congr_left->ny,map_cons->er,map_map->ig,mem_cons_self->hq,mem_map->cO,mem_singleton->hZ,range->fJ,replicate->bp,replicate_succ->A4,set_append_right->vm
open Nat renaming add_mul->CI,add_zero->A6,beq->ix,ble->qQ,blt->Sa,eq_of_beq_eq_true->rx,le_of_ble_eq_true->za,le_refl->dM,le_trans->lf,lt_of_lt_of_le->A7,mul_le_mul_right->vn,zero_le->cU
open Option renaming isSome_iff_exists->Se
namespace Go.Sx
set_option maxRecDepth 100000
set_option maxHeartbeats 0
abbrev vw:=@cond_false
abbrev pG:=@cond_true
abbrev eu:=@congrArg
abbrev jn:=@decide_eq_false
abbrev hr:=@decide_eq_true
abbrev vx:=@decide_eq_true_eq
abbrev nk:=@if_false
abbrev aC:=@if_neg
abbrev aS:=@if_pos
abbrev mO:=@if_true
abbrev Ag:=@of_decide_eq_false
abbrev uX:=@of_decide_eq_true
set_option linter.all false
variable {z:Int}{b n o:Nat}{β:Nat->Nat}{p:Prop}{α:Type}{v:aA}{a:aE}{w:bD}{x y:gu}{el iS t:gv}{op:t'}
theorem I(h:p:=by omega):p:=h
theorem aH(h:p:=by decide):p:=h
theorem aL(h:p:=by grind):p:=h
theorem bc(h:p:=by simp):p:=h
theorem dW(h:p:=by rfl):p:=h
theorem fl(h:p:=by kernel_rfl):p:=h
inductive eC where
 |t (n:Nat)
 |c (v:aA)
 |jM (g:Nat)
 |fn (f:Nat)
 deriving Inhabited
inductive mI where
 |et (x:eC)
 |set (x:eC)
 |pick (c a b:eC)
 |alloc (ty:Nat) (zero:List aA)
 |box (ty:Nat) (x:eC)
 |build (zero:List aA) (parts:List (Nat×Nat×eC))
 |Hy (ty:Nat) (len size:Nat) (zero:List aA) (parts:List (Nat×eC))
 |load (agg:Bool) (n:Nat) (x:eC)
 |store (n:Nat) (x y:eC)
 |Qa (x:eC)
 |arith (op:t') (x y:eC)
 |cmp (op:t') (x y:eC)
 |eqv (neg:Bool) (vB:Nat) (x y:eC)
 |Kz (op:t') (x y:eC)
 |vq (op:t') (ty:Nat) (x y:eC)
 |unop (op:UnOp) (x:eC)
 |conv(src dst:Nat) (x:eC)
 |Bu (off:Nat) (x:eC)
 |field (agg:Bool) (off n:Nat) (x:eC)
 |sL (size:Nat) (x i:eC)
 |Pi (len size:Nat) (x i:eC)
 |len (ty:Nat) (x:eC)
 |IF (x:eC)
 |extract (x:eC) (i:Nat)
 |call (f:Nat) (args:List eC)
 |E1 (x:eC) (args:List eC)
 |HB (f:Nat) (args:List eC)
 |SV (x:eC) (args:List eC)
 |aaM (f:Nat) (args:List eC)
 |Kh (ty bF abR abG:Nat) (zero:List aA) (x y:eC)
 |append (ty bF abR abG:Nat) (zero:List aA) (x y:eC)
 |Gf (ty bF abR abG:Nat) (zero:List aA) (l c:eC)
 |slice (size:Nat) (x:eC) (df ai:Option eC)
 |L5 (kJ:Bool) (x y:eC)
 |neg (x:eC)
 |P0
 |lookup (ca:Nat) (zero:aA) (x k:eC) (ok:Bool)
 |PU (ca:Nat) (x k v:eC)
 |PZ (f:Nat) (n':List eC)
 |range (x:eC)
 |next (x:eC)
 |entry (x:eC)
 |S6 (k:AX) (x:eC)
 |Q5 (x:eC)
 |invoke (name:String) (x:eC) (args:List eC)
 |raw (U:Op)
 |bad
 deriving Inhabited
structure cY where
 d:Option Nat
 g:Option (Nat×Bool)
 k:mI
 deriving Inhabited
structure wE where
 U:cY
 after:List Nat
 m:Bool
 x:Bool:=false
 y:Bool:=false
 z:Bool:=false
 q:Option Nat:=none
 deriving Inhabited
inductive kP where
 |nil
 |top
 |bot
 |v (U:cY) (m z:Bool) (r:kP)
 |w (U:cY) (y:Bool) (r:kP)
 |two (U:cY) (y:Bool) (r s:kP)
 |d (q:Nat) (U:cY) (y:Bool) (r:kP)
 |akP (q:Nat) (U:cY) (y:Bool) (r s:kP)
 deriving Inhabited
inductive IR where
 |skip
 |ck (ops:List cY)
 |Af (t:kP)
 |seq (a b:IR)
 |cond (c:eC) (x y:IR)
 |block (id:Nat) (b:IR)
 |loop (b:IR)
 |exit (id:Nat)
 |scope (b:IR)
 |label
 |ret
 |aEp (f:eC) (a8:List Nat) (a b:IR)
 |bad
 deriving Inhabited
def bZ:gu->eC
 |.tmp t=>.t t
 |.const v=>.c v
 |.global g=>.jM g
 |.func f=>.fn f
section
variable (P:fk)
def rk(t:Nat):Bool:=match P.underlying t with
 |some (.struct _)|some (.array _ _)=>true
 |_=>false
def sY(t:Nat):Bool:=match P.underlying t with
 |some (.int .i64)=>true
 |_=>false
def Ra(t:Nat):Bool:=match P.underlying t with
 |some (.int .u64)=>true
 |_=>false
def jQ(t:Nat):Nat:=match P.info? t with|some i=>i.size|none=>0
def km(t:Nat):Bool:=(P.underlying t).isSome&&(P.info? t).isSome
def De(t:Nat):Option (Nat×Nat×List aA):=match P.info? t with
 |some i=>(match i.zero with
  |some z=>if ix z.cells.size i.size&&Sa 0 i.size then some (i.size,i.bytes,z.cells.toList)else none
  |none=>none)
 |none=>none
def BX:List Field->Nat->Bool
 |[],_=>true
 |f::r,i=>sY P f.type&&ix f.offset i&&km P f.type&& !rk P f.type&&decide (f.name≠ "_")&&BX r (i+1)
def FZ(e:Nat):Bool:=sY P e&&km P e&& !rk P e&&ix (jQ P e) 1
def Oa(t:Nat):Option Nat:=match P.underlying t with
 |some .bool=>some 0
 |some (.pointer _)=>some 1
 |some (.slice _)=>some 2
 |some (.func _ _ _)=>some 3
 |some (.struct a)=>if BX P a.toList 0&& !P.stoodInHeld t&& !P.eqGuardType P.depth t then some (5+a.size)else none
 |some (.array n e)=>if FZ P e&& !P.eqGuardType P.depth t then some (5+n)else none
 |_=>none
def BZ(t:Nat):Option Nat:=bif sY P t then some 0 else match P.underlying t with
 |some (.struct a)=>if BX P a.toList 0&& !P.stoodInHeld t&& !P.eqGuardType P.depth t then some (5+a.size)else none
 |some (.array n e)=>if FZ P e&& !P.eqGuardType P.depth t then some (5+n)else none
 |_=>none
def M6(t:Nat):Option aA:=match P.info? t with
 |some i=>i.zero
 |none=>none
def Q9(t:Nat):Option AX:=match P.underlying t with
 |some (.int k)=>some k
 |_=>none
def MP(t:Nat):Bool:=(Q9 P t).isSome
def Dh(t i:Nat):Option Field:=match P.underlying t with
 |some (.struct a)=>a[i]?
 |_=>none
def Gb(t:Nat):List (Nat×gu)->Option (List (Nat×Nat×eC))
 |[]=>some []
 |(i,x)::r=>match Dh P t i with
  |some f=>(match km P f.type,Gb t r with
   |true,some l=>some ((f.offset,jQ P f.type,bZ x)::l)
   |_,_=>none)
  |none=>none
def X1(t:Nat):Bool:=match P.underlying t with
 |some (.struct a)=>a.toList.all λf=>km P f.type
 |_=>false
def V8(t:Nat)(a:List (Nat×gu)):Option (List (Nat×Nat×eC)):=match P.underlying t with
 |some (.array _ e)=>if km P e then some (a.map λp=>(p.1*jQ P e,jQ P e,bZ p.2))else none
 |_=>none
def bW(U:Op):mI:=
 match U with
 |.move x=>.et (bZ x)
 |.assign x=>.set (bZ x)
 |.pick c a b=>.pick (bZ c) (bZ a) (bZ b)
 |.alloc t=>(match P.info? t with
  |some i=>(match i.zero with|some z=>.alloc t z.cells.toList|none=>.raw U)
  |none=>.raw U)
 |.box t x=>.box t (bZ x)
 |.build t g=>(match P.info? t with
  |some i=>(match i.zero,(if X1 P t then Gb P t g.toList else V8 P t g.toList)with|some z,some l=>.build z.cells.toList l|_,_=>.raw U)
  |none=>.raw U)
 |.buildSlice t n g=>(match P.underlying t with
  |some (.slice e)=>(match De P e with|some (s,_,z)=>.Hy e n s z (g.toList.map λp=>(p.1,bZ p.2))|none=>.raw U)
  |_=>.raw U)
 |.load t x=>if km P t then .load (rk P t) (jQ P t) (bZ x)else .raw U
 |.store t x y=>if km P t then .store (jQ P t) (bZ x) (bZ y)else .raw U
 |.nilCheck x=>.Qa (bZ x)
 |.binOp op t x y _=>(match op with
  |.add|.sub|.mul=>if sY P t then .arith op (bZ x) (bZ y)else .vq op t (bZ x) (bZ y)
  |.quo|.rem=>if sY P t then .Kz op (bZ x) (bZ y)else .vq op t (bZ x) (bZ y)
  |.eql=>if sY P t then .cmp op (bZ x) (bZ y)else if MP P t then .vq op t (bZ x) (bZ y)else(match Oa P t with|some k=>.eqv false k (bZ x) (bZ y)|none=>.raw U)
  |.neq=>if sY P t then .cmp op (bZ x) (bZ y)else if MP P t then .vq op t (bZ x) (bZ y)else(match Oa P t with|some k=>.eqv true k (bZ x) (bZ y)|none=>.raw U)
  |.lss|.leq|.gtr|.geq=>if sY P t then .cmp op (bZ x) (bZ y)else .vq op t (bZ x) (bZ y)
  |.shr=>.vq .shr 0 (bZ x) (bZ y)
  |_=>.vq op t (bZ x) (bZ y))
 |.unOp op t x=>(match op with
  |.neg=>if sY P t then .neg (bZ x)else .raw U
  |.not=>.unop .not (bZ x)
  |_=>.raw U)
 |.convert s d x=>if sY P s&&Ra P d then .conv 0 0 (bZ x)else if Ra P s&&sY P d then .conv 1 0 (bZ x)else if MP P s then(match Q9 P d with|some k=>.S6 k (bZ x)|none=>.raw U)else .raw U
 |.fieldAddr t x i=>(match Dh P t i with
  |some f=>if km P f.type&& !ix (jQ P f.type) 0 then .Bu f.offset (bZ x)else .raw U
  |none=>.raw U)
 |.field t x i=>(match Dh P t i with
  |some f=>if km P f.type then .field (rk P f.type) f.offset (jQ P f.type) (bZ x)else .raw U
  |none=>.raw U)
 |.indexAddr t x i=>(match P.underlying t with
  |some (.slice e)=>if km P e then .sL (jQ P e) (bZ x) (bZ i)else .raw U
  |some (.array n e)=>if km P e then .Pi n (jQ P e) (bZ x) (bZ i)else .raw U
  |_=>.raw U)
 |.lookup t x k ok=>(match P.underlying t with
  |some (.map j e)=>(match BZ P j,M6 P e with
   |some h,some z=>.lookup h z (bZ x) (bZ k) ok
   |_,_=>.raw U)
  |_=>.raw U)
 |.mapUpdate t x k v=>(match P.underlying t with
  |some (.map j _)=>(match BZ P j with
   |some h=>.PU h (bZ x) (bZ k) (bZ v)
   |none=>.raw U)
  |_=>.raw U)
 |.makeSlice t l c=>(match P.underlying t with
  |some (.slice e)=>(match De P e with|some (s,b,z)=>.Gf t e s b z (bZ l) (bZ c)|none=>.raw U)
  |_=>.raw U)
 |.slice t x q o kJ=>(match P.underlying t,kJ with
  |some (.slice e),none=>if km P e then .slice (jQ P e) (bZ x) (q.map bZ) (o.map bZ)else .raw U
  |_,_=>.raw U)
 |.extract x i=>.extract (bZ x) i
 |.makeFunc fn first u=>(match fn with
  |.func f=>if first.size=0 then .PZ f (u.toList.map bZ)else .raw U
  |_=>.raw U)
 |.makeMap _ r=>(match r with|none=>.P0|some _=>.raw U)
 |.range t x=>(match P.underlying t with
  |some (.map _ _)=>.range (bZ x)
  |_=>.raw U)
 |.next x s=>if s then .raw U else .next (bZ x)
 |.entry x=>.entry (bZ x)
 |.call c=>(match c.callee with
  |.builtin .append=>(match c.args.toList,c.argTypes.toList with
   |[x,y],[t,iS]=>(match P.underlying t with
    |some (.slice e)=>(match De P e with|some (s,b,z)=>if t=iS then .append t e s b z (bZ x) (bZ y)else .raw U|none=>.raw U)
    |_=>.raw U)
   |_,_=>.raw U)
  |.builtin .len=>(match c.args.toList,c.argTypes.toList with
   |[x],[t]=>(match P.underlying t with
    |some (.slice _)=>.len t (bZ x)
    |some (.map _ _)=>.IF (bZ x)
    |some .string=>.Q5 (bZ x)
    |_=>.raw U)
   |_,_=>.raw U)
  |.builtin .min=>(match c.args.toList with
   |[x,y]=>.L5 false (bZ x) (bZ y)
   |_=>.raw U)
  |.builtin .max=>(match c.args.toList with
   |[x,y]=>.L5 true (bZ x) (bZ y)
   |_=>.raw U)
  |.builtin _=>.raw U
  |.value (.func f)=>.call f (c.args.toList.map bZ)
  |.value x=>.E1 (bZ x) (c.args.toList.map bZ)
  |.invoke x m=>.invoke m (bZ x) (c.args.toList.map bZ))
 |_=>.raw U
def jd:mI->Bool
 |.et _|.pick .. |.load .. |.Qa _|.arith .. |.cmp .. |.unop .. |.Bu .. |.sL .. |.Pi .. |.len .. |.extract ..
 |.build .. |.eqv .. |.neg _|.L5 .. |.Kz .. |.slice .. |.field .. |.lookup .. |.IF _|.conv .. |.vq .. |.S6 .. |.Q5 _=>true
 |_=>false
def sM:mI->Bool
 |.load .. |.lookup .. |.IF _=>true
 |_=>false
def F1:mI->Bool
 |.alloc .. |.box .. |.Hy .. |.Gf .. |.set _=>true
 |_=>false
def yA:mI->Bool
 |.append .. =>true
 |_=>false
def LF:mI->Bool
 |.call .. |.E1 .. =>true
 |_=>false
def rA:mI->mI
 |.append t e s b z x y=>.Kh t e s b z x y
 |.call f a=>.HB f a
 |.E1 x a=>.SV x a
 |k=>k
def vv(U:cY):cY:={d:=U.d,g:=U.g,k:=rA U.k}
def Fg:mI->mI
 |.call f a=>.aaM f a
 |k=>rA k
def Dj(U:cY):cY:={d:=U.d,g:=U.g,k:=Fg U.k}
def yE(ops:Array cv):Option (Nat×Bool)->Option (Option (Nat×Bool))
 |none=>some none
 |some (o,b)=>match ops[o]?with
  |some U=>(match U.dst with|some d=>some (some (d,b))|none=>none)
  |none=>none
def gz(ops:Array cv)(U:cv):cY:=
 match yE ops U.guard with
 |some g=>{d:=U.dst,g:=g,k:=bW P U.op}
 |none=>{d:=U.dst,g:=none,k:=.bad}
def uG(ops:Array cv)(U:cv):Bool:=match U.op with
 |.store _ (.tmp t) _=>ops.toList.any λp=>(match p.op with|.alloc _|.box _ _=>p.dst==some t|_=>false)
 |_=>false
def aa3(ops:Array cv)(b:Array Nat)(i x:Nat):Bool:=
 match ops[i]?,ops[x]?with
 |some cA,some a=>sM (bW P cA.op)&& !(jd (bW P a.op)||F1 (bW P a.op)||yA (bW P a.op)||LF (bW P a.op)||uG ops a||(b.getD x 0).testBit i||(b.getD i 0).testBit x)
 |_,_=>false
def rG(ops:Array cv)(b:Array Nat)(i:Nat):Bool:=(fJ ops.size).any λx=>i !=x&&aa3 P ops b i x
def F2(ops:Array cv)(b:Array Nat)(i:Nat)(U:cv):Bool:=jd (bW P U.op)&& !rG P ops b i
def Qq(ops:Array cv)(b:Array Nat)(i x:Nat):Bool:=
 match ops[i]?,ops[x]?with
 |some cA,some f=>
  let rV:=(b.getD x 0).testBit i;let e:=(b.getD i 0).testBit x;let a:=F2 P ops b i cA;let c:=F2 P ops b x f
  (match f.dst with
   |some d=>(!(cA.looksAt ops).contains d||e||(!c&&rV))&&(cA.dst !=some d||(!c&&rV)||(!a&&e))
   |none=>true)
 |_,_=>true
def Qe(ops:Array cv):Bool:=
 let b:=fa ops
 Region.noSelect ops&&(fJ ops.size).all λi=>
  (match ops[i]?with
   |some U=>(U.after.toList.all λe=>!sl .any e||decide (e.on<i))&&(!jd (bW P U.op)||(match U.dst with|some d=>!(U.looksAt ops).contains d|none=>false))
   |none=>true)&&
  (fJ ops.size).all λx=>i==x||Qq P ops b i x
def Bw(cu:List Nat)(U:cv):Bool:=match bW P U.op with
 |.call f _=>cu.contains f
 |_=>false
def qw(cu:List Nat)(ops:Array cv)(b:Array Nat)(i:Nat):Bool:=(fJ ops.size).any λx=>(match ops[x]?with|some a=>yA (bW P a.op)||Bw P cu a||uG ops a|none=>false)&& !(b.getD x 0).testBit i&& !(b.getD i 0).testBit x
def rn(cu:List Nat)(ops:Array cv)(b:Array Nat)(i:Nat):Bool:=(fJ ops.size).any λx=>(match ops[x]?with|some a=>Bw P cu a|none=>false)&& !(b.getD x 0).testBit i&& !(b.getD i 0).testBit x
def alone(cu:List Nat)(ops:Array cv)(b:Array Nat)(i:Nat)(U:cv):Bool:=
 (match bW P U.op with
  |.call f _=>cu.contains f
  |.E1 (.t n) _=>cu.contains (n+1000)
  |_=>false)&&
 (fJ ops.size).all λo=>i==o||(match ops[o]?with|some a=>!sM (bW P a.op)||(b.getD o 0).testBit i||(b.getD i 0).testBit o|none=>true)
def k1(cu:List Nat)(ops:Array cv)(b:Array Nat)(i:Nat)(U:cv):cY:=match alone P cu ops b i U with
 |true=>gz P ops U
 |false=>match Bw P cu U with
  |true=>Dj (gz P ops U)
  |false=>vv (gz P ops U)
def LY:List cv->Nat
 |[]=>1000000
 |U::l=>match U.dst with|some d=>Nat.min d (LY l)|none=>LY l
def w0(cu:List Nat)(ops:Array cv)(U:cv):Option Nat:=match bW P U.op with
 |.call f _=>bif cu.contains (f+2000)then some (LY ops.toList)else none
 |_=>none
def L2(cu:List Nat)(ops:Array cv)(b:Array Nat):List cv->Nat->List wE
 |[],_=>[]
 |U::l,i=>{U:=k1 P cu ops b i U,after:=(U.after.toList.filter (sl .any)).map (·.on),m:=qw P cu ops b i,x:=rG P ops b i,y:=uG ops U,z:=rn P cu ops b i,q:=w0 P cu ops U}::L2 cu ops b l (i+1)
abbrev sm:=List (Nat×wE)
def Gd(l:List Nat)(i:Nat):Bool:=match l with
 |[]=>false
 |x::r=>ix x i||Gd r i
def xw(done:List Nat):List Nat->Bool
 |[]=>true
 |o::r=>Gd done o&&xw done r
def Ak(done:List Nat):sm->Option (Nat×wE×sm)
 |[]=>none
 |(i,U)::r=>bif jd U.U.k&& !U.x&&xw done U.after then some (i,U,r)else match Ak done r with
  |some (o,p,a)=>some (o,p,(i,U)::a)
  |none=>none
def Gq(done:List Nat):sm->sm->List (Nat×wE×sm)
 |[],_=>[]
 |(i,U)::r,pre=>bif xw done U.after then(i,U,pre++r)::Gq done r (pre++[(i,U)])else Gq done r (pre++[(i,U)])
def Gg{α:Type}:List α->Nat->List (Nat×α)
 |[],_=>[]
 |x::l,k=>(k,x)::Gg l (k+1)
def Iu:List (wE×kP)->kP
 |[]=>.top
 |[(U,t)]=>(match U.q with|none=>.w U.U U.y t|some q=>.d q U.U U.y t)
 |(U,t)::x::l=>(match U.q with|none=>.two U.U U.y t (Iu (x::l))|some q=>.akP q U.U U.y t (Iu (x::l)))
def Gr:Nat->List Nat->sm->kP
 |_,_,[]=>.nil
 |0,_,_::_=>.bot
 |f+1,done,x::r=>match Ak done (x::r)with
  |some (i,U,a)=>.v U.U U.m U.z (Gr f (i::done) a)
  |none=>Iu ((Gq done (x::r) []).map λy=>(y.2.1,Gr f (y.1::done) y.2.2))
def W6(ops:List wE):kP:=Gr ops.length [] (Gg ops 0)
def lower(cu:List Nat):Code->IR
 |.skip=>.skip
 |.region _ ops false=>.ck (ops.toList.map (gz P ops))
 |.region _ ops true=>if Qe P ops then .Af (W6 (L2 P cu ops (fa ops) ops.toList 0))else .bad
 |.seq a b=>.seq (lower cu a) (lower cu b)
 |.cond c a b=>.cond (bZ c) (lower cu a) (lower cu b)
 |.block i b=>.block i (lower cu b)
 |.loop b=>.loop (lower cu b)
 |.exit i=>.exit i
 |.scope b=>.scope (lower cu b)
 |.label _=>.label
 |.ret=>.ret
 |.rangeFunc f d a b=>.aEp (bZ f) d.toList (lower cu a) (lower cu b)
 |_=>.bad
end
abbrev J:=Nat->Option Obj
variable {h:J}
def J.cell?(h:J)(a:aE):Option aA:=match h a.block with
 |some (.cells c _ _)=>if a.spot.isSome then none else c[a.off]?
 |_=>none
def J.le(h aa:J):Prop:=∀o U,h o=some U->aa o=some U
def J.put(h:J)(b:Nat)(U:Obj):J:=λo=>if o=b then some U else h o
def J.del(h:J)(b:Nat):J:=λo=>if o=b then none else h o
def J.of(w:bD):J:=λo=>w.heap[o]?
def n2(h:J)(w:bD):Prop:=∀o U,h o=some U->w.heap[o]?=some U
theorem J.le_refl(h:J):h.le h:=λ_ _ e=>e
theorem J.le_trans{a b c:J}(x:a.le b)(y:b.le c):a.le c:=λo U e=>y o U (x o U e)
theorem J.l5{aa:J}(x:h.le aa)(e:h.cell? a=some v):aa.cell? a=some v:=by
 unfold J.cell? at*;cases b:h a.block with
 |none=>grind
 |some U=>rw[b]at e;rw[x _ _ b];exact e
theorem n2.cell(x:n2 h w)(e:h.cell? a=some v):w.cell? a=some v:=by
 unfold J.cell? at e;unfold NF;cases b:h a.block with
 |none=>grind
 |some U=>rw[b]at e;rw[x _ _ b];exact e
theorem n2.mono{aa:J}(x:n2 aa w)(y:h.le aa):n2 h w:=λo U e=>x o U (y o U e)
theorem J.d'{U:Obj}(a:h b=none):h.le (h.put b U):=λo c e=>by
 unfold J.put
 grind
theorem J.b8(h:J) b U:h.put b U b=some U:=by simp[J.put]
theorem J.cD(h:J) U(e:o≠b):h.put b U o=h o:=by simp[J.put,e]
theorem J.HJ(h:J) b:h.del b b=none:=by simp[J.del]
theorem J.nA(h:J)(e:o≠b):h.del b o=h o:=by simp[J.del,e]
theorem J.abj(h:J) b:(h.del b).le h:=λo U e=>by
 unfold J.del at e
 grind
structure Ext(h:J)(w:bD)(aa:J)(bz:bD):Prop where
 hw:n2 aa bz
 os:bz.os=w.os
 tape:bz.tape=w.tape
 output:bz.output=w.output
 size:w.heap.size<=bz.heap.size
 frame:∀o,o<w.heap.size->h o=none->bz.heap[o]?=w.heap[o]?
 fresh:∀o,aa o≠none->h o≠none\/w.heap.size<=o
structure Fn(P:fk)(f:mT)(args:Array aA)(h:J)(Q:aA->J->Prop):Prop where
 body:∃fn,P.funcs[f]?=some fn/\fn.body.isSome=true/\(fn.name== "runtime.NumGoroutine")=false
 run:∀w,n2 h w->Calls P f args w λe bz=>∃v aa,e= .returned v/\Q v aa/\Ext h w aa bz
theorem Fn.mono{P:fk}{f:mT}{args:Array aA}{h:J}{Q d:aA->J->Prop}(x:Fn P f args h Q)(y:∀v aa,Q v aa->d v aa):Fn P f args h d:=⟨x.body,λw hw=>(x.run w hw).mono λ_ _⟨v,aa,a,b,c⟩=>⟨v,aa,a,y _ _ b,c⟩⟩
inductive aN where
 |v (x:aA)
 |p (i off:Nat)
 |s (i off len cap:Nat)
 |m (i:Nat)
 |a (xs:List aN)
 deriving Inhabited
variable {V:aN->Prop}
abbrev cg:=Nat->aN
def aN.c1(β:Nat->Nat):aN->aA
 |.v x=>x
 |.p i off=>.pointer (some ⟨β i,off,none⟩)
 |.s i off len cap=>.slice (some ⟨β i,off,none⟩) len cap
 |.m i=>.map (some (β i))
 |.a _=>fS
def aN.c(β:Nat->Nat):aN->aA
 |.a xs=>.agg (xs.map (aN.c1 β)).toArray
 |bL=>bL.c1 β
inductive LE where
 |own (cells:List aN) (ty:Nat)
 |b5 (b:Nat)
 |row (bF size:Nat) (A:Option aE) (n cap:Nat) (xs:List aA)
 |map (f:List Int->Option aA) (n:Nat)
 |gone
 deriving Inhabited
variable {L:List LE}
def cI{α:Type}:List α->Nat->Option α
 |[],_=>none
 |x::_,0=>some x
 |_::l,n+1=>cI l n
def hy{α:Type}:List α->Nat->α->List α
 |[],_,_=>[]
 |_::l,0,y=>y::l
 |x::l,n+1,y=>x::hy l n y
def takeN{α:Type}:Nat->List α->Option (List α)
 |0,_=>some []
 |_+1,[]=>none
 |n+1,x::l=>match takeN n l with|some r=>some (x::r)|none=>none
def sub{α:Type}(l:List α):Nat->Nat->Option (List α)
 |0,n=>takeN n l
 |off+1,n=>match l with|[]=>none|_::l=>sub l off n
def over{α:Type}:List α->Nat->List α->Option (List α)
 |l,0,[]=>some l
 |[],0,_::_=>none
 |_::l,0,y::aV=>match over l 0 aV with|some r=>some (y::r)|none=>none
 |[],_+1,_=>none
 |x::l,off+1,aV=>match over l off aV with|some r=>some (x::r)|none=>none
theorem ra(l:List α):∀n,cI l n=l[n]? :=by
 induction l with
 |nil=>simp[cI]
 |cons x l a=>intro n;cases n<;>simp[cI,a]
theorem Jk(l:List α) y:∀n,hy l n y=l.set n y:=by
 induction l with
 |nil=>simp[hy]
 |cons x l a=>intro n;cases n<;>simp[hy,a]
theorem ako{α:Type}:∀n(l r:List α),takeN n l=some r->r=l.take n/\r.length=n
 |0,l,r,h=>by grind [takeN]
 |n+1,[],r,h=>by grind [takeN]
 |n+1,x::l,r,h=>by
  simp only[takeN]at h;split at h;rename_i d c;injection h with h;subst h;obtain⟨a,b⟩:=ako n l d c
  grind
  grind
theorem sub_eq{α:Type}:∀off n(l r:List α),sub l off n=some r->r=(l.drop off).take n/\r.length=n
 |0,n,l,r,h=>by simpa[sub]using ako n l r (by grind [sub])
 |off+1,n,[],r,h=>by grind [sub]
 |off+1,n,x::l,r,h=>by simpa using sub_eq off n l r (by grind [sub])
theorem Mi{α:Type}:∀off(l aV r:List α),over l off aV=some r->r.length=l.length/\off+aV.length<=l.length/\(∀o,r[o]?=if off<=o/\o<off+aV.length then aV[o-off]?else l[o]?)
 |0,l,[],r,h=>by
  grind [over]
 |0,[],y::aV,r,h=>by grind [over]
 |0,x::l,y::aV,r,h=>by
  simp only[over]at h;split at h;rename_i e d;injection h with h;subst h;obtain⟨a,b,c⟩:=Mi 0 l aV e d
  grind
  grind
 |off+1,[],aV,r,h=>by grind [over]
 |off+1,x::l,aV,r,h=>by
  simp only[over]at h;split at h;rename_i e d;injection h with h;subst h;obtain⟨a,b,c⟩:=Mi off l aV e d
  grind
  grind
def jR(e:cg)(d:Nat)(x:aN):cg:=λi=>bif ix i d then x else e i
def mE(e:cg):List Nat->List aN->cg
 |d::a,x::xs=>mE (jR e d x) a xs
 |_,_=>e
def one:aN->Bool
 |.v (.agg _)|.v (.tuple _)|.a _=>false
 |_=>true
def I1:List aN->Bool
 |[]=>true
 |x::l=>one x&&I1 l
def cellsOf:aN->Option (List aN)
 |.a xs=>some xs
 |.v (.agg cs)=>some (cs.toList.map .v)
 |.v (.tuple _)=>none
 |x=>some [x]
def Ao(L:List LE):aN->Option aA
 |.v x=>some x
 |.p i off=>match cI L i with|some (.b5 b)=>some (.pointer (some ⟨b,off,none⟩))|_=>none
 |.s i off len cap=>match cI L i with|some (.b5 b)=>some (.slice (some ⟨b,off,none⟩) len cap)|_=>none
 |.m i=>match cI L i with|some (.b5 b)=>some (.map (some b))|_=>none
 |.a _=>none
def r5(L:List LE):List aN->Option (List aA)
 |[]=>some []
 |x::l=>match Ao L x,r5 L l with|some v,some r=>some (v::r)|_,_=>none
def raw(L:List LE):aN->Option aA
 |.a xs=>match r5 L xs with|some r=>some (.agg r.toArray)|none=>none
 |x=>Ao L x
def pY(L:List LE):List aN->Option (List aA)
 |[]=>some []
 |x::l=>match raw L x,pY L l with|some v,some r=>some (v::r)|_,_=>none
def P7(L:List LE):aN->Option Nat
 |.p i _|.s i _ _ _=>match cI L i with|some (.own _ _)=>some i|_=>none
 |.m i=>match cI L i with|some (.map _ _)=>some i|_=>none
 |_=>none
def L7(L:List LE):List aN->Option Nat
 |[]=>none
 |x::l=>match P7 L x with|some i=>some i|none=>L7 L l
def ahw(L:List LE):aN->Option Nat
 |.a xs=>L7 L xs
 |x=>P7 L x
def L6(L:List LE):List aN->Option Nat
 |[]=>none
 |x::l=>match ahw L x with|some i=>some i|none=>L6 L l
def gw(b:Bool)(x y:Prop):Prop:=match b with|true=>x|false=>y
theorem vr{b:Bool}{x y:Prop}(t:b=true->x)(f:b=false->y):gw b x y:=by
 cases b;exact f rfl;exact t rfl
theorem aW{c:Prop}[Decidable c]{x y:Prop}(t:c->x)(f:¬c->y):gw (decide c) x y:=vr (λh=>t (uX h)) (λh=>f (Ag h))
inductive RH(L:List LE)(h:J)(a:aE)(V:aN->Prop):Prop
 |hp (v:aA) (av:h.cell? a=some v) (k:V (.v v))
 |row (i bF size:Nat) (g:aE) (n cap:Nat) (xs:List aA) (o:Nat) (v:aA) (ai:cI L i=some (.row bF size (some g) n cap xs)) (aZ:a=g.add o) (ao:xs[o]?=some v) (k:V (.v v))
inductive RI(L:List LE)(h:J)(a:aE)(n:Nat)(V:aN->Prop):Prop
 |hp (aI:List aA) (al:aI.length=n) (av:∀o v,aI[o]?=some v->h.cell? (a.add o)=some v) (k:V (.a (aI.map .v)))
 |row (i bF size:Nat) (g:aE) (m cap:Nat) (xs:List aA) (o:Nat) (aI:List aA) (ai:cI L i=some (.row bF size (some g) m cap xs)) (aZ:a=g.add o) (al:aI.length=n)
  (ao:∀k v,aI[k]?=some v->xs[o+k]?=some v) (k:V (.a (aI.map .v)))
inductive G3(A:Option aE)(n:Nat)(z:Int)(V:aE->Prop):Prop
 |mk (a:aE) (aZ:A=some a) (am:0<=z) (h1:z<n) (k:V a)
inductive Y0(n:Nat)(z:Int)(V:Prop):Prop
 |mk (am:0<=z) (h1:z<n) (k:V)
inductive Y2(n:Nat)(z:Int)(V:Nat->Prop):Prop
 |mk (am:0<=z) (h1:z<n) (k:V z.toNat)
def Oc(n:Nat)(z:Int)(V:Nat->Prop):Prop:=match z with
 |.ofNat k=>bif Sa k n then V k else False
 |.negSucc _=>False
theorem abS{V:Nat->Prop}(h:Oc n z V):0<=z/\z<n/\V z.toNat:=by
 unfold Oc at h;split at h;simp_all
 grind
inductive AS(z:Int)(V:Int->Prop):Prop
 |ok (am: -9223372036854775808<=z) (h1:z<=9223372036854775807) (k:V z)
 |wrap (k:V (IntKind.i64.wrap z))
theorem G3.m{A:Option aE}{V:aE->Prop}(a:aE)(b:A=some a)(k:V a)(am:0<=z:=by omega)(h1:z<n:=by omega):G3 A n z V:=.mk a b am h1 k
theorem G3.r{V:aE->Prop}(k:V a)(am:0<=z:=by omega)(h1:z<n:=by omega):G3 (some a) n z V:=.mk a rfl am h1 k
theorem AS.bl{V:Int->Prop}(k:V z)(am: -9223372036854775808<=z:=by omega)(h1:z<=9223372036854775807:=by omega):AS z V:=.ok am h1 k
inductive Nb(dk:AX)(z:Int)(V:Int->Prop):Prop
 |mk (am:0<=z) (h1:z<=9223372036854775807) (k:V z)
 |wrap (k:V (dk.wrap z))
inductive G2(op:t')(rX:AX)(x:Int)(rY:AX)(y:Int)(V:aN->Prop):Prop
 |mk (v:aA) (af:∀(P:fk)(w:bD),(binOp op 0 (.int rX x) (.int rY y)).run P w= .ok v w) (k:V (.v v))
def Ob(op:t')(a b:Int)(V:aN->Prop)(c:Prop):Prop:=match op with
 |.eql=>V (.v (.bool (decide (a=b))))
 |.neq=>V (.v (.bool (decide (a≠b))))
 |.lss=>V (.v (.bool (decide (a<b))))
 |.leq=>V (.v (.bool (decide (a<=b))))
 |.gtr=>V (.v (.bool (decide (b<a))))
 |.geq=>V (.v (.bool (decide (b<=a))))
 |_=>c
inductive Y1(y:Int)(V:Prop):Prop
 |mk (h:y≠0) (k:V)
def S2:t'->Int->Int->Bool
 |.eql,x,y=>decide (x=y)
 |.neq,x,y=>decide (x≠y)
 |.lss,x,y=>decide (x<y)
 |.leq,x,y=>decide (x<=y)
 |.gtr,x,y=>decide (y<x)
 |_,x,y=>decide (y<=x)
def eC.get(e:cg):eC->aN
 |.t n=>e n
 |.c v=>.v v
 |.jM g=>.v (.pointer (some ⟨g,0,none⟩))
 |.fn f=>.v (.func (.func f) #[] #[])
def force(x:aN)(V:aN->Prop):Prop:=match x with
 |.v y=>V (.v y)
 |.p i off=>V (.p i off)
 |.s i off len cap=>V (.s i off len cap)
 |.m i=>V (.m i)
 |.a xs=>V (.a xs)
theorem force_eq x V:force x V=V x:=by cases x<;>rfl
def flip(neg b:Bool):Bool:=match neg with|true=>!b|false=>b
def Bv:List aN->List (Nat×Nat×aN)->Option (List aN)
 |cs,[]=>some cs
 |cs,(off,size,x)::r=>match cellsOf x with
  |some aV=>bif ix aV.length size then(match over cs off aV with|some a=>Bv a r|none=>none)else none
  |none=>none
def ET:aN->Option (List aN)
 |.a xs=>some xs
 |.v (.agg cs)=>some (cs.toList.map .v)
 |_=>none
def I4(e:cg):Option eC->Option aN
 |none=>none
 |some x=>some (x.get e)
inductive JF(A:Option aE)(n cap:Nat)(size:Nat)(df ai:Int)(V:aN->Prop):Prop
 |mk (l k:Nat) (al:df=l) (hk:ai=k) (am:l<=k) (h1:k<=cap) (ca:∀B,(l<cap->B=A.map (·.add (l*size)))->(l=cap->B=A)->V (.v (.slice B (k-l) (cap-l))))
def zv:List aN->List aN->Option Bool
 |[],[]=>some true
 |.v (.int .i64 a)::l,.v (.int .i64 b)::r=>match zv l r with|some t=>some (decide (a=b)&&t)|none=>none
 |_,_=>none
structure ja where
 k:List Int
 v:aA
 born:Nat
def k8(b:Nat)(k:List Int):aA:=match b with
 |0=>(match k with|[a]=>.int .i64 a|_=>fS)
 |_=>.agg (k.map (Value.int .i64)).toArray
def k5(a:Nat)(x:ja):CH:={key:=k8 a x.k,val:=x.v,born:=x.born}
def kZ(a:Nat)(l:List ja)(b:Nat):Obj:=.map (l.map (k5 a)).toArray b
def uL:Nat->Nat
 |0=>1
 |n=>n-5
def ke:List ja->List Int->Option aA
 |[],_=>none
 |x::l,k=>if k=x.k then some x.v else ke l k
def upsert:List ja->List Int->aA->Nat->List ja
 |[],k,v,c=>[⟨k,v,c⟩]
 |x::l,k,v,c=>if k=x.k then⟨x.k,v,x.born⟩::l else x::upsert l k v c
structure y'(h:J)(b ca:Nat)(l:List ja)(cx:Nat):Prop where
 at_:h b=some (kZ ca l cx)
 keys:∀x∈l,x.k.length=uL ca
def ints:List aN->Option (List Int)
 |[]=>some []
 |.v (.int .i64 a)::l=>match ints l with|some r=>some (a::r)|none=>none
 |_=>none
def Pu(b:Nat)(x:aN):Option (List Int):=match b with
 |0=>(match x with|.v (.int .i64 a)=>some [a]|_=>none)
 |b=>(match ET x with
  |some xs=>(match ints xs with|some c=>bif ix (c.length+5) b then some c else none|none=>none)
  |none=>none)
inductive alX(h:J)(b ca:Nat)(ee:List Int)(V:Option aA->Prop):Prop
 |mk (l:List ja) (cx:Nat) (hm:y' h b ca l cx) (k:V (ke l ee))
inductive alZ(h:J)(b:Nat)(V:Int->Prop):Prop
 |mk (ca:Nat) (l:List ja) (cx:Nat) (hm:y' h b ca l cx) (k:V l.length)
def Tp(op:t')(x y:aN)(V:aN->Prop):Prop:=match x,y with
 |.v (.int .u8 a),.v (.int .u8 b)=>Ob op a b V (G2 op .u8 a .u8 b V)
 |.v (.int .u64 a),.v (.int .u64 b)=>Ob op a b V (G2 op .u64 a .u64 b V)
 |.v (.int c a),.v (.int d b)=>G2 op c a d b V
 |_,_=>False
def fH(k:mI)(e:cg)(L:List LE)(h:J)(V:aN->Prop):Prop:=
 match k with
 |.et x=>force (x.get e) V
 |.pick c a b=>(match c.get e with
  |.v (.bool t)=>gw t (force (a.get e) V) (force (b.get e) V)
  |_=>False)
 |.load true n x=>(match x.get e with
  |.p i off=>(match cI L i with
   |some (.own cs _)=>(match sub cs off n with|some r=>V (.a r)|none=>False)
   |some (.b5 b)=>RI L h ⟨b,off,none⟩ n V
   |_=>False)
  |.v (.pointer (some a))=>RI L h a n V
  |_=>False)
 |.load false _ x=>(match x.get e with
  |.p i off=>(match cI L i with
   |some (.own cs _)=>(match cI cs off with|some (.a _)=>False|some r=>V r|none=>False)
   |some (.b5 b)=>RH L h ⟨b,off,none⟩ V
   |_=>False)
  |.v (.pointer (some a))=>RH L h a V
  |_=>False)
 |.Qa x=>(match x.get e with
  |.p i off=>V (.p i off)
  |.v (.pointer (some a))=>V (.v (.pointer (some a)))
  |_=>False)
 |.arith op x y=>(match x.get e,y.get e with
  |.v (.int .i64 a),.v (.int .i64 b)=>(match op with
   |.add=>AS (a+b) λz=>V (.v (.int .i64 z))
   |.sub=>AS (a-b) λz=>V (.v (.int .i64 z))
   |.mul=>AS (a*b) λz=>V (.v (.int .i64 z))
   |_=>False)
  |_,_=>False)
 |.cmp op x y=>(match x.get e,y.get e with
  |.v (.int .i64 a),.v (.int .i64 b)=>(match op with
   |.eql=>V (.v (.bool (decide (a=b))))
   |.neq=>V (.v (.bool (decide (a≠b))))
   |.lss=>V (.v (.bool (decide (a<b))))
   |.leq=>V (.v (.bool (decide (a<=b))))
   |.gtr=>V (.v (.bool (decide (b<a))))
   |.geq=>V (.v (.bool (decide (b<=a))))
   |_=>False)
  |_,_=>False)
 |.unop .not x=>(match x.get e with
  |.v (.bool b)=>V (.v (.bool (!b)))
  |_=>False)
 |.Bu off x=>(match x.get e with
  |.p i U=>V (.p i (U+off))
  |.v (.pointer (some a))=>V (.v (.pointer (some (a.add off))))
  |_=>False)
 |.sL size x i=>(match x.get e,i.get e with
  |.v (.slice A n _),.v (.int .i64 z)=>G3 A n z λa=>V (.v (.pointer (some (a.add (z.toNat*size)))))
  |.s l off n _,.v (.int .i64 z)=>Y0 n z (V (.p l (off+z.toNat*size)))
  |.v (.slice A n _),.v (.int .u8 z)=>G3 A n z λa=>V (.v (.pointer (some (a.add (z.toNat*size)))))
  |.s l off n _,.v (.int .u8 z)=>Y0 n z (V (.p l (off+z.toNat*size)))
  |_,_=>False)
 |.Pi len size x i=>(match x.get e,i with
  |.v (.pointer (some a)),.c (.int .i64 z)=>Oc len z λk=>V (.v (.pointer (some (a.add (k*size)))))
  |.p l off,.c (.int .i64 z)=>Oc len z λk=>V (.p l (off+k*size))
  |.v (.pointer (some a)),.t _=>(match i.get e with
   |.v (.int .i64 z)=>Y2 len z λk=>V (.v (.pointer (some (a.add (k*size)))))
   |.v (.int .u64 z)=>Y2 len z λk=>V (.v (.pointer (some (a.add (k*size)))))
   |_=>False)
  |_,_=>False)
 |.len _ x=>(match x.get e with
  |.v (.slice _ n _)=>V (.v (.int .i64 n))
  |.s _ _ n _=>V (.v (.int .i64 n))
  |_=>False)
 |.extract x i=>(match x.get e with
  |.v (.tuple aI)=>(match cI aI.toList i with|some v=>V (.v v)|none=>False)
  |_=>False)
 |.build zero parts=>(match Bv (zero.map .v) (parts.map λp=>(p.1,p.2.1,p.2.2.get e))with
  |some cs=>V (.a cs)
  |none=>False)
 |.eqv neg 0 x y=>(match x.get e,y.get e with
  |.v (.bool a),.v (.bool b)=>V (.v (.bool (flip neg (a==b))))
  |_,_=>False)
 |.eqv neg 1 x y=>(match x.get e,y.get e with
  |.v (.pointer A),.v (.pointer none)=>V (.v (.bool (flip neg A.isNone)))
  |.p _ _,.v (.pointer none)=>V (.v (.bool neg))
  |_,_=>False)
 |.eqv neg 2 x y=>(match x.get e,y.get e with
  |.v (.slice A _ _),.v (.slice none _ _)=>V (.v (.bool (flip neg A.isNone)))
  |.s _ _ _ _,.v (.slice none _ _)=>V (.v (.bool neg))
  |_,_=>False)
 |.eqv neg 3 x y=>(match x.get e,y.get e with
  |.v .nilFunc,.v .nilFunc=>V (.v (.bool (flip neg true)))
  |.v (.func _ _ _),.v .nilFunc=>V (.v (.bool neg))
  |_,_=>False)
 |.eqv neg (n+5) x y=>(match ET (x.get e),ET (y.get e)with
  |some xs,some aV=>bif ix xs.length n&&ix aV.length n then(match zv xs aV with|some b=>V (.v (.bool (flip neg b)))|none=>False)else False
  |_,_=>False)
 |.neg x=>(match x.get e with
  |.v (.int .i64 a)=>AS (0-a) λz=>V (.v (.int .i64 z))
  |_=>False)
 |.L5 kJ x y=>(match x.get e,y.get e with
  |.v (.int .i64 a),.v (.int .i64 b)=>(match kJ with
   |true=>V (.v (.int .i64 (max a b)))
   |false=>V (.v (.int .i64 (min a b))))
  |_,_=>False)
 |.Kz op x y=>(match x.get e,y.get e with
  |.v (.int .i64 a),.v (.int .i64 b)=>(match op with
   |.quo=>Y1 b (AS (a.tdiv b) λz=>V (.v (.int .i64 z)))
   |.rem=>Y1 b (V (.v (.int .i64 (a.tmod b))))
   |_=>False)
  |_,_=>False)
 |.slice size x g f=>(match x.get e,I4 e g,I4 e f with
  |.v (.slice A n cap),none,none=>JF A n cap size 0 n V
  |.v (.slice A n cap),some (.v (.int .i64 l)),none=>JF A n cap size l n V
  |.v (.slice A n cap),none,some (.v (.int .i64 k))=>JF A n cap size 0 k V
  |.v (.slice A n cap),some (.v (.int .i64 l)),some (.v (.int .i64 k))=>JF A n cap size l k V
  |_,_,_=>False)
 |.field agg off n x=>(match ET (x.get e)with
  |some cs=>(match agg with
   |true=>(match sub cs off n with|some r=>V (.a r)|none=>False)
   |false=>(match cI cs off with|some (.a _)=>False|some r=>V r|none=>False))
  |none=>False)
 |.lookup d zero x k ok=>(match x.get e,Pu d (k.get e)with
  |.v (.map (some b)),some j=>alX h b d j λr=>(match ok with
   |true=>V (.v (.tuple #[r.getD zero,.bool r.isSome]))
   |false=>V (.v (r.getD zero)))
  |_,_=>False)
 |.IF x=>(match x.get e with
  |.v (.map (some b))=>alZ h b λz=>V (.v (.int .i64 z))
  |_=>False)
 |.conv 0 0 x=>(match x.get e with
  |.v (.int .i64 z)=>Nb .u64 z λz=>V (.v (.int .u64 z))
  |_=>False)
 |.conv 1 0 x=>(match x.get e with
  |.v (.int .u64 z)=>Nb .i64 z λz=>V (.v (.int .i64 z))
  |_=>False)
 |.S6 k x=>(match x.get e with
  |.v (.int _ z)=>V (.v (.int k (k.wrap z)))
  |_=>False)
 |.Q5 x=>(match x.get e with
  |.v (.string s)=>V (.v (.int .i64 s.size))
  |_=>False)
 |.vq .shr 0 x y=>(match x.get e,y.get e with
  |.v (.int .u64 z),.v (.int .u64 1)=>V (.v (.int .u64 (z.fdiv 2)))
  |.v (.int m a),.v (.int o b)=>G2 .shr m a o b V
  |_,_=>False)
 |.vq op _ x y=>Tp op (x.get e) (y.get e) V
 |_=>False
theorem SB k a v c:∀l,ke (upsert l k v c) a=if a=k then some v else ke l a
 |[]=>by rfl
 |x::l=>by
  simp only[upsert];split;rename_i hk;simp_all[ke,<-hk];rename_i hk;simp only[ke,SB k a v c l]
  grind
def LE.isRow:LE->Bool
 |.row .. =>true
 |_=>false
def fP(L:List LE)(i:Nat):Prop:=∃l,cI L i=some l/\l.isRow=false
def aN.ji(L:List LE):aN->Prop
 |.p i _|.s i _ _ _|.m i=>fP L i
 |_=>True
def aN.ok(L:List LE):aN->Prop
 |.a xs=>∀x∈xs,x.ji L
 |x=>x.ji L
def Pt:aA->Option (List Int)
 |.int .i64 a=>some [a]
 |.agg cs=>cs.toList.mapM λ|.int .i64 a=>some a|_=>none
 |_=>none
structure amZ(es:Array CH)(f:List Int->Option aA)(n:Nat):Prop where
 size:es.size=n
 keys:∀(i:Nat)(e:CH),es[i]?=some e->∃k,Pt e.key=some k/\f k=some e.val
 all:∀k v,f k=some v->∃(i:Nat)(e:CH),es[i]?=some e/\Pt e.key=some k/\e.val=v
 inj:∀(i o:Nat)(e bH:CH)(k:List Int),es[i]?=some e->es[o]?=some bH->Pt e.key=some k->Pt bH.key=some k->i=o
def LE.fX(β:Nat->Nat)(i:Nat)(w:bD):LE->Prop
 |.own cs ty=>w.heap[β i]?=some (.cells (cs.map (aN.c1 β)).toArray ty (0,0))
 |.b5 b=>β i=b
 |.row bF size A n cap xs=>w.ownsRow 0 bF size (.slice A n cap) n xs/\∀g,A=some g->g.block=β i
 |.map f n=>∃es a,w.heap[β i]?=some (.map es a)/\amZ es f n
 |.gone=>True
structure lg(β:Nat->Nat)(L:List LE)(h:J)(w:bD):Prop where
 hw:n2 h w
 cJ:∀i l,cI L i=some l->l.fX β i w
structure dF(n:Nat)(β:Nat->Nat)(L:List LE)(e:cg)(a:Act):Prop where
 defers:a.defers=[]
 size:a.tmps.size=n
 env:∀t,a.tmps.getD t fS=(e t).c β
 ok:∀t,(e t).ok L
theorem aN.ST{x:aN}(h:∀xs,x≠.a xs):x.c β=x.c1 β:=by
 cases x<;>first|rfl|grind
theorem dF.eval{n:Nat}{L:List LE}{β:Nat->Nat}{e:cg}{a:Act}(r:dF n β L e a) x:a.eval x=((bZ x).get e).c β:=by
 cases x with
 |tmp t=>exact r.env t
 |const v=>rfl
 |global g=>rfl
 |func f=>rfl
theorem dF.sU{e:cg}{a:Act}(r:dF n β L e a) x:((bZ x).get e).ok L:=by
 cases x with
 |tmp t=>exact r.ok t
 |const v=>trivial
 |global g=>trivial
 |func f=>trivial
theorem add_lit b U k:(oA b U none).add k=⟨b,U+k,none⟩:=by
 unfold M8;simp
theorem wS(a:aE) i o:(a.add i).add o=a.add (i+o):=by
 unfold M8
 grind
section
variable {P:fk}{w:bD}
theorem run_loadCellsFrom a:∀(aI:List aA) i b,(∀o v,aI[o]?=some v->w.cell? (a.add (i+o))=some v)->(aAR a i aI.length b).run P w= .ok (b++aI.toArray) w
 |[],i,b,_=>by rfl
 |v::aI,i,b,h=>by
  have am:w.cell? (a.add i)=some v:=h 0 v rfl;simp only[iJ,aAR,iT,run_load,am,jc];rw[run_loadCellsFrom a aI (i+1) (b.push v) (λo u hu=>by have:=h (o+1) u aL;grind)];simp
theorem run_loadCells a(aI:List aA)(h:∀o v,aI[o]?=some v->w.cell? (a.add o)=some v):(loadCells a aI.length).run P w= .ok aI.toArray w:=by
 unfold loadCells;rw[run_loadCellsFrom a aI 0 #[] aL];simp
theorem QM(h:P.underlying t≠none):(isAgg t).run P w= .ok (rk P t) w:=by
 unfold isAgg rk;cases hu:P.underlying t with
 |none=>grind
 |some d=>cases d<;>simp[underlying,hu]
theorem run_sizeOf{i:CU}(h:P.info? t=some i):(sizeOf t).run P w= .ok i.size w:=by
 simp[sizeOf,Cn,h]
theorem AD{i:CU}(h:P.info? t=some i):jQ P t=i.size:=by simp[jQ,h]
end
theorem QT(s:lg β L h w){i:Nat}{cs:List aN}{ty:Nat}(b:cI L i=some (.own cs ty)){off:Nat}{x:aN}(a:cs[off]?=some x):w.cell? ⟨β i,off,none⟩=some (x.c1 β):=by
 have:=s.cJ i _ b;simp_all[LE.fX,NF,this,a]
theorem XR(s:lg β L h w){i bF size cap:Nat}{g:aE}{xs:List aA}(d:cI L i=some (.row bF size (some g) n cap xs))(m:xs[o]?=some v):w.cell? (g.add o)=some v:=by
 obtain⟨⟨_,f⟩,_⟩:=s.cJ i _ d;rcases f with⟨am,_⟩|⟨b,c,j,k,_,e,_,_,_,l⟩
 grind
 injection k with a _ _;injection a with a;subst a;rw[add_lit];have av:j[o]?=some v:=by
  grind
 simp[NF,e,av]
section
variable {P:fk}{n:Nat}{β:Nat->Nat}{L:List LE}{h:J}{e:cg}{a:Act}
theorem Bj{bB:List LE}{x:aN}(a:x.ji L)(hm:∀i,fP L i->fP bB i):x.ji bB:=by
 cases x<;>simp only[aN.ji]at* <;>exact hm _ a
theorem aCy{bB:List LE}{x:aN}(b:x.ok L)(hm:∀i,fP L i->fP bB i):x.ok bB:=by
 cases x with
 |a xs=>exactλy c=>Bj (b y c) hm
 |_=>simp only[aN.ok]at*;exact Bj b hm
def Yields(P:fk)(U:cv)(a:Act)(β:Nat->Nat)(L:List LE)(h:J)(bL:aN):Prop:=∀w,lg β L h w->(dD a.eval U).run P w= .ok (.value (bL.c β)) w
theorem oo{l:List α}{i:Nat}{x:α}(h:cI l i=some x):i<l.length:=by
 rw[ra]at h
 grind
theorem ab6(c:dF n β L e a){U:cv}(d:U.op= .move x)(b:fH (.et (bZ x)) e L h V):∃bL,V bL/\bL.ok L/\Yields P U a β L h bL:=by
 simp only[fH,force_eq]at b;refine⟨_,b,c.sU x,λw _=>?_⟩;simp[dD,d,c.eval x]
theorem ab8(b:dF n β L e a){U:cv}{c:gu}(f:U.op= .pick c x y)(d:fH (.pick (bZ c) (bZ x) (bZ y)) e L h V):∃bL,V bL/\bL.ok L/\Yields P U a β L h bL:=by
 simp only[fH,force_eq]at d;split at d;rename_i t av;cases t with
 |true=>exact⟨_,d,b.sU x,λw _=>by simp[dD,f,b.eval c,av,aN.c,aN.c1,asBool,b.eval x]⟩
 |false=>exact⟨_,d,b.sU y,λw _=>by simp[dD,f,b.eval c,av,aN.c,aN.c1,asBool,b.eval y]⟩
 grind
theorem AC(a:km P t=true):∃i,P.info? t=some i:=by
 simp only[km,iv,Se]at a
 grind
theorem Q'(a:km P t=true):P.underlying t≠none:=by
 simp only[km,iv,Se]at a
 grind
theorem XF(c:km P t=true)(b:rk P t=false){a:aE}(av:w.cell? a=some v):(V6 t a).run P w= .ok v w:=by
 simp[V6,QM (Q' c),b,av]
theorem XE(c:km P t=true)(d:rk P t=true){a:aE}{aI:List aA}(al:aI.length=jQ P t)(av:∀o v,aI[o]?=some v->w.cell? (a.add o)=some v):(V6 t a).run P w= .ok (.agg aI.toArray) w:=by
 obtain⟨i,b⟩:=AC c;have e:i.size=aI.length:=by rw[al,AD b]
 simp[V6,QM (Q' c),d,run_sizeOf b,e,run_loadCells a aI av]
theorem aCA{cs:List aN}(b:∀x∈cs,x.ji L){i:Nat}{x:aN}(a:cI cs i=some x):x.ji L:=by
 rw[ra]at a
 grind
theorem ahZ{x:aN}(b:x.ji L)(c:∀xs,x≠.a xs):x.ok L:=by
 cases x with
 |a xs=>grind
 |_=>exact b
def ei(L:List LE):Prop:=∀i cs ty,cI L i=some (.own cs ty)->∀x∈cs,x.ji L
theorem EZ β(aI:List aA):(aI.map aN.v).map (aN.c1 β)=aI:=by
 induction aI with
 |nil=>rfl
 |cons v aI a=>simp only[er,a];rfl
theorem aaL β(aI:List aA):aN.c β (.a (aI.map .v))= .agg aI.toArray:=by
 show Kd ((aI.map aN.v).map (aN.c1 β)).toArray=_;rw[EZ]
theorem ah0 L(aI:List aA):aN.ok L (.a (aI.map .v)):=by
 intro x b;obtain⟨v,_,rfl⟩:=cO.1 b;trivial
theorem XQ(hw:lg β L h w){i off:Nat}(a:cI L i=some (.b5 b)):aN.c β (.p i off)= .pointer (some ⟨b,off,none⟩):=by
 have:=hw.cJ i _ a;simp only[LE.fX]at this;subst this;rfl
theorem Ts(F:dF n β L e a)(E:ei L){U:cv}(p:U.op= .load t x)(u:km P t=true)(d:fH (.load (rk P t) (jQ P t) (bZ x)) e L h V):∃bL,V bL/\bL.ok L/\Yields P U a β L h bL:=by
 have s:=F.eval x;cases l:rk P t with
 |true=>
  simp only[l,fH]at d;have raw:∀j:aE,(∀w,lg β L h w->((bZ x).get e).c β= .pointer (some j))->RI L h j (jQ P t) V->∃bL,V bL/\bL.ok L/\Yields P U a β L h bL:=by
   intro j hp al;cases al with
   |hp aI al av k=>
    refine⟨_,k,ah0 _ _,λw hw=>?_⟩;rw[aaL];simp[dD,p,s,hp w hw,CC,ru,XE u l al (λo v e=>hw.hw.cell (av o v e))]
   |row i bF size g m cap xs o aI f C al A k=>
    refine⟨_,k,ah0 _ _,λw hw=>?_⟩;subst C;rw[aaL];simp[dD,p,s,hp w hw,CC,ru,XE u l al (λq v e=>by rw[wS];exact XR hw f (A q v e))]
  split at d;rename_i i off hp;split at d;rename_i cs ty f;split at d;rename_i r z;obtain⟨J,K⟩:=sub_eq _ _ _ _ z;refine⟨_,d,?_,λw hw=>?_⟩;show∀y∈r,y.ji L;intro y B;rw[J]at B;exact E i cs ty f y (List.mem_of_mem_drop (List.mem_of_mem_take B));have I:∀o v,(r.map (aN.c1 β))[o]?=some v->w.cell? ((oA (β i) off none).add o)=some v:=by
   intro o v e;rw[List.getElem?_map,Option.map_eq_some_iff]at e;obtain⟨y,B,rfl⟩:=e;rw[add_lit];refine QT hw f ?_
   grind
  have H:(r.map (aN.c1 β)).length=jQ P t:=aL;simp[dD,p,s,hp,aN.c,aN.c1,CC,ru,XE u l H I]
  grind
  rename_i b f;exact raw ⟨b,off,none⟩ (λw hw=>by rw[hp];exact XQ hw f) d
  grind
  rename_i j hp;exact raw j (λ_ _=>by rw[hp];rfl) d
  grind
 |false=>
  simp only[l,fH]at d;have raw:∀j:aE,(∀w,lg β L h w->((bZ x).get e).c β= .pointer (some j))->RH L h j V->∃bL,V bL/\bL.ok L/\Yields P U a β L h bL:=by
   intro j hp al;cases al with
   |hp v av k=>
    refine⟨_,k,trivial,λw hw=>?_⟩;show _=ant (anh v) w;simp[dD,p,s,hp w hw,CC,ru,XF u l (hw.hw.cell av)]
   |row i bF size g m cap xs o v f C A k=>
    refine⟨_,k,trivial,λw hw=>?_⟩;subst C;show _=ant (anh v) w;simp[dD,p,s,hp w hw,CC,ru,XF u l (XR hw f A)]
  split at d;rename_i i off hp;split at d;rename_i cs ty f;split at d
  grind
  rename_i r G z;have D:∀xs,r≠.a xs:=λxs e=>G xs e;refine⟨_,d,ahZ (aCA (E i cs ty f) z) D,λw hw=>?_⟩;rw[aN.ST D];simp[dD,p,s,hp,aN.c,aN.c1,CC,ru,XF u l (QT hw f (by rw[<-ra];exact z))]
  grind
  rename_i b f;exact raw ⟨b,off,none⟩ (λw hw=>by rw[hp];exact XQ hw f) d
  grind
  rename_i j hp;exact raw j (λ_ _=>by rw[hp];rfl) d
  grind
theorem ab7(g:dF n β L e a){U:cv}(d:U.op= .nilCheck x)(b:fH (.Qa (bZ x)) e L h V):∃bL,V bL/\bL.ok L/\Yields P U a β L h bL:=by
 have f:=g.eval x;have hk:=g.sU x;simp only[fH]at b;split at b;rename_i i off hp;rw[hp]at hk;exact⟨_,b,hk,λw hw=>by simp[dD,d,f,hp,aN.c,aN.c1]⟩;rename_i j hp;exact⟨_,b,trivial,λw hw=>by simp[dD,d,f,hp,aN.c,aN.c1]⟩
 grind
theorem AS.out{V:Int->Prop}(a:AS z V):V (IntKind.i64.wrap z):=by
 cases a with
 |ok am h1 k=>rw[show IntKind.i64.wrap z=z from IntWalk.i64_in z ⟨am,h1⟩];exact k
 |wrap k=>exact k
theorem aqY(j:dF n β L e a){U:cv}(g:U.op= .binOp op t x y iS)(b:fH (.arith op (bZ x) (bZ y)) e L h V):∃bL,V bL/\bL.ok L/\Yields P U a β L h bL:=by
 have f:=j.eval x;have d:=j.eval y;simp only[fH]at b;split at b;rename_i i o hp k;rw[hp]at f;rw[k]at d;split at b;exact⟨_,b.out,trivial,λw hw=>by simp[dD,g,f,d,aN.c,aN.c1,binOp_add,eqGuard_add,ZA]⟩;exact⟨_,b.out,trivial,λw hw=>by simp[dD,g,f,d,aN.c,aN.c1,binOp_sub,eqGuard_sub,ZA]⟩;exact⟨_,b.out,trivial,λw hw=>by simp[dD,g,f,d,aN.c,aN.c1,binOp_mul,eqGuard_mul,ZA]⟩
 grind
 grind
theorem aq0(j:dF n β L e a){U:cv}(g:U.op= .binOp op t x y iS)(b:fH (.cmp op (bZ x) (bZ y)) e L h V):∃bL,V bL/\bL.ok L/\Yields P U a β L h bL:=by
 have f:=j.eval x;have d:=j.eval y;simp only[fH]at b;split at b;rename_i i o hp k;rw[hp]at f;rw[k]at d;split at b;exact⟨_,b,trivial,λw hw=>by simp[dD,g,f,d,aN.c,aN.c1,binOp_eql,KF];rfl⟩;exact⟨_,b,trivial,λw hw=>by simp[dD,g,f,d,aN.c,aN.c1,binOp_neq,KF];rfl⟩;exact⟨_,b,trivial,λw hw=>by simp[dD,g,f,d,aN.c,aN.c1,binOp_lss,KF]⟩;exact⟨_,b,trivial,λw hw=>by simp[dD,g,f,d,aN.c,aN.c1,binOp_leq,KF]⟩;exact⟨_,b,trivial,λw hw=>by simp[dD,g,f,d,aN.c,aN.c1,binOp_gtr,KF]⟩;exact⟨_,b,trivial,λw hw=>by simp[dD,g,f,d,aN.c,aN.c1,binOp_geq,KF]⟩
 grind
 grind
theorem aq4(i:dF n β L e a){U:cv}(f:U.op= .unOp .not t x)(d:fH (.unop .not (bZ x)) e L h V):∃bL,V bL/\bL.ok L/\Yields P U a β L h bL:=by
 have g:=i.eval x;simp only[fH]at d;split at d;rename_i b hp;exact⟨_,d,trivial,λw hw=>by simp[dD,f,g,hp,aN.c,aN.c1,Op.unary]⟩
 grind
theorem ab0(s:dF n β L e a){U:cv}{i:Nat}{f:Field}(p:U.op= .fieldAddr t x i)(u:Dh P t i=some f)(d:(km P f.type&& !ix (jQ P f.type) 0)=true)(b:fH (.Bu f.offset (bZ x)) e L h V):∃bL,V bL/\bL.ok L/\Yields P U a β L h bL:=by
 have q:=s.eval x;have hk:=s.sU x;simp only[iv]at d;obtain⟨d,m⟩:=d;obtain⟨o,r⟩:=AC d;have v:o.size≠0:=λe=>by rw[AD r,e]at m;cases m
 have y:∃j,P.underlying t=some (.struct j)/\j[i]?=some f:=by
  unfold Dh at u
  grind
 obtain⟨j,hu,k⟩:=y;have go:∀(w:bD)(g:aE),(fieldPlace g f).run P w= .ok (g.add f.offset) w:=λw g=>by
  simp[fieldPlace,run_sizeOf r,v]
 simp only[fH]at b;split at b;rename_i l off hp;rw[hp]at hk;refine⟨_,b,hk,λw hw=>?_⟩;simp[dD,p,q,hp,aN.c,aN.c1,amd,hg hu,k,ru,go,add_lit];rename_i g hp;refine⟨_,b,trivial,λw hw=>?_⟩;simp[dD,p,q,hp,aN.c,aN.c1,amd,hg hu,k,ru,go]
 grind
theorem ab1(q:dF n β L e a){U:cv}{i:gu}(g:U.op= .indexAddr t x i)(hu:P.underlying t=some (.slice el))(r:km P el=true)(d:fH (.sL (jQ P el) (bZ x) (bZ i)) e L h V):∃bL,V bL/\bL.ok L/\Yields P U a β L h bL:=by
 have j:=q.eval x;have p:=q.eval i;have hk:=q.sU x;obtain⟨o,f⟩:=AC r;rw[AD f]at d;simp only[fH]at d;split at d;rename_i A m cap z hp b;obtain⟨s,rfl,am,h1,k⟩:=d;refine⟨_,k,trivial,λw hw=>?_⟩;simp[dD,g,j,p,hp,b,aN.c,aN.c1,EE,hg hu,EV,run_sizeOf f,am,h1];rename_i l off m cap z hp b;obtain⟨am,h1,k⟩:=d;rw[hp]at hk;refine⟨_,k,hk,λw hw=>?_⟩;simp[dD,g,j,p,hp,b,aN.c,aN.c1,EE,hg hu,EV,run_sizeOf f,am,h1,add_lit];rename_i A m cap z hp b;obtain⟨s,rfl,am,h1,k⟩:=d;refine⟨_,k,trivial,λw hw=>?_⟩;simp[dD,g,j,p,hp,b,aN.c,aN.c1,EE,hg hu,EV,run_sizeOf f,am,h1];rename_i l off m cap z hp b;obtain⟨am,h1,k⟩:=d;rw[hp]at hk;refine⟨_,k,hk,λw hw=>?_⟩;simp[dD,g,j,p,hp,b,aN.c,aN.c1,EE,hg hu,EV,run_sizeOf f,am,h1,add_lit]
 grind
theorem ab2(r:dF n β L e a){U:cv}{m:Nat}{i:gu}(p:U.op= .indexAddr t x i)(hu:P.underlying t=some (.array m el))(s:km P el=true)(d:fH (.Pi m (jQ P el) (bZ x) (bZ i)) e L h V):∃bL,V bL/\bL.ok L/\Yields P U a β L h bL:=by
 have f:=r.eval x;have b:=r.eval i;have hk:=r.sU x;obtain⟨o,g⟩:=AC s;rw[AD g]at d;simp only[fH]at d;split at d;rename_i u z hp j;obtain⟨am,h1,k⟩:=abS d;rw[j]at b;rw[hp]at f;have b:a.eval i= .int .i64 z:=b;refine⟨_,k,trivial,λw hw=>?_⟩;simp[dD,p,f,b,aN.c,aN.c1,EE,ru,hg hu,EV,run_sizeOf g,am,h1];rename_i l off z hp j;obtain⟨am,h1,k⟩:=abS d;rw[hp]at hk;rw[j]at b;rw[hp]at f;have b:a.eval i= .int .i64 z:=b;refine⟨_,k,hk,λw hw=>?_⟩;simp[dD,p,f,b,aN.c,aN.c1,EE,ru,hg hu,EV,run_sizeOf g,am,h1,add_lit];rename_i u v hp j;split at d;rename_i z q;obtain⟨am,h1,k⟩:=d;rw[q]at b;refine⟨_,k,trivial,λw hw=>?_⟩;simp[dD,p,f,b,hp,aN.c,aN.c1,EE,ru,hg hu,EV,run_sizeOf g,am,h1];rename_i z q;obtain⟨am,h1,k⟩:=d;rw[q]at b;refine⟨_,k,trivial,λw hw=>?_⟩;simp[dD,p,f,b,hp,aN.c,aN.c1,EE,ru,hg hu,EV,run_sizeOf g,am,h1]
 grind
 grind
theorem ab3(g:dF n β L e a){U:cv}(d:U.op= .call {callee:=.builtin .len,args:=#[x],argTypes:=#[t]})(hu:P.underlying t=some (.slice el))(b:fH (.len t (bZ x)) e L h V):∃bL,V bL/\bL.ok L/\Yields P U a β L h bL:=by
 have f:=g.eval x;simp only[fH]at b;split at b;rename_i A m cap hp;exact⟨_,b,trivial,λw hw=>by simp[dD,d,u5,invoke,builtin,f,hp,aN.c,aN.c1,YS,hg hu,goInt]⟩;rename_i l off m cap hp;exact⟨_,b,trivial,λw hw=>by simp[dD,d,u5,invoke,builtin,f,hp,aN.c,aN.c1,YS,hg hu,goInt]⟩
 grind
theorem ab'(g:dF n β L e a){U:cv}(d:U.op= .call {callee:=.builtin .len,args:=#[x],argTypes:=#[t]})(hu:P.underlying t=some .string)(b:fH (.Q5 (bZ x)) e L h V):∃bL,V bL/\bL.ok L/\Yields P U a β L h bL:=by
 have f:=g.eval x;simp only[fH]at b;split at b;rename_i s hp;exact⟨_,b,trivial,λw hw=>by simp[dD,d,u5,invoke,builtin,f,hp,aN.c,aN.c1,YS,hg hu,goInt]⟩
 grind
theorem aqT{a b:Int}{c:Prop}(h:Ob op a b V c):(V (.v (.bool (S2 op a b)))/\(op= .eql\/op= .neq\/op= .lss\/op= .leq\/op= .gtr\/op= .geq))\/c:=by
 cases op<;>first|exact .inr h|exact .inl ⟨h,bc⟩
theorem aav{a b:AX}{x y:Int}:binOp op t (.int a x) (.int b y)=binOp op iS (.int a x) (.int b y):=by cases op<;>rfl
theorem Tn{c d:AX}{a b:Int}:(eqGuard op t x y (.int c a) (.int d b)).run P w= .ok () w:=by
 unfold eqGuard;simp
theorem aEL{k:AX}{a b:Int}(c:op= .eql\/op= .neq\/op= .lss\/op= .leq\/op= .gtr\/op= .geq):(binOp op t (.int k a) (.int k b)).run P w= .ok (.bool (S2 op a b)) w:=by
 rcases c with rfl|rfl|rfl|rfl|rfl|rfl<;>simp[binOp,Op.intCmp,S2]<;>rfl
theorem w3(g:dF n β L e a){U:cv}(m:U.op= .binOp op t x y iS){i:Nat}(s:¬(op= .shr/\i=0))(b:fH (.vq op i (bZ x) (bZ y)) e L h V):∃bL,V bL/\bL.ok L/\Yields P U a β L h bL:=by
 have d:=g.eval x;have c:=g.eval y;have bin:∀{j l:AX}{u v:Int},a.eval x= .int j u->a.eval y= .int l v->G2 op j u l v V->∃bL,V bL/\bL.ok L/\Yields P U a β L h bL:=λ{j l u v} h1 ae⟨r,g,k⟩=>
  ⟨_,k,trivial,λw _=>by
   show(dD a.eval U).run P w= .ok (.value r) w;simp only[dD,m,h1,ae,iT,Tn,jc,aav (t:=t) (iS:=0),g,l3]⟩
 have cmp:∀{k:AX}{u v:Int},a.eval x= .int k u->a.eval y= .int k v->Ob op u v V (G2 op k u k v V)->∃bL,V bL/\bL.ok L/\Yields P U a β L h bL:=λ{k u v} h1 ae av=>by
  rcases aqT av with⟨p,o⟩|q;exact⟨_,p,trivial,λw _=>by
   show(dD a.eval U).run P w= .ok (.value _) w;simp only[dD,m,h1,ae,iT,Tn,jc,aEL o,l3];rfl⟩
  grind
 have b:Tp op ((bZ x).get e) ((bZ y).get e) V:=by
  cases op<;>first|exact b|(cases i with
   |zero=>grind
   |succ i=>exact b)
 unfold Tp at b;split at b;rename_i u v hp f;rw[hp]at d;rw[f]at c;exact cmp d c b;rename_i u v hp f;rw[hp]at d;rw[f]at c;exact cmp d c b;rename_i j u l v _ _ hp f;rw[hp]at d;rw[f]at c;exact bin d c b
 grind
theorem abY(j:dF n β L e a){U:cv}{i:Nat}(d:U.op= .extract x i)(b:fH (.extract (bZ x) i) e L h V):∃bL,V bL/\bL.ok L/\Yields P U a β L h bL:=by
 have f:=j.eval x;simp only[fH]at b;split at b;rename_i aI hp;split at b;rename_i v g;have k:aI[i]?=some v:=by rw[ra]at g;grind
 exact⟨_,b,trivial,λw hw=>by simp[dD,d,f,hp,aN.c,aN.c1,Instr.extract,k]⟩
 grind
 grind
end
end Go.Sx
namespace Go.Sx
open Go.RowKit
set_option maxRecDepth 100000
set_option maxHeartbeats 0
set_option linter.all false
variable {C:(Nat->Nat)->Prop}{next:Act->bD->Prop}{aI xs:List aA}{cs:List aN}{b bytes c cap el off q size ty:Nat}{A B:Option aE}{α:Type}{v z:aA}{x:aN}{bz w:bD}{t:gv}{Q:iw->Act->bD->Prop}{f:mT}
def LE.live:LE->Bool
 |.own .. |.map .. =>true
 |.row _ _ A _ _ _=>A.isSome
 |_=>false
variable {cC:LE}
structure dm(am:J)(bh:bD)(β:Nat->Nat)(L:List LE)(h:J)(w:bD):Prop where
 cJ:lg β L h w
 hole:∀i l,cI L i=some l->l.live=true->h (β i)=none
 inj:∀i o l cC,cI L i=some l->cI L o=some cC->l.live=true->cC.live=true->β i=β o->i=o
 lt:∀i l,cI L i=some l->l.live=true->β i<w.heap.size
 df:∀i l,cI L i=some l->l.live=true->am (β i)≠none\/bh.heap.size<=β i
 os:w.os=bh.os
 tape:w.tape=bh.tape
 output:w.output=bh.output
 size:bh.heap.size<=w.heap.size
 frame:∀o,o<bh.heap.size->am o=none->w.heap[o]?=bh.heap[o]?
 fresh:∀o,h o≠none->am o≠none\/bh.heap.size<=o
theorem n2.lt{h:J}(x:n2 h w){o:Nat}(a:h o≠none):o<w.heap.size:=by
 cases e:h o with
 |none=>grind
 |some U=>
  have:=x o U e
  grind
theorem n2.out{h:J}(x:n2 h w){o:Nat}(a:w.heap.size<=o):h o=none:=by
 cases e:h o with
 |none=>rfl
 |some U=>have:=x.lt (o:=o) aL;omega
theorem yH(l:List α) x i:cI (l++[x]) i=if i<l.length then cI l i else if i=l.length then some x else none:=by
 rw[ra,ra,EF]
 grind
theorem rb(l:List α) x i o(a:i<l.length):cI (hy l i x) o=if o=i then some x else cI l o:=by
 rw[ra,Jk,ra,List.getElem?_set]
 grind
theorem aAF(l:List α) x i:(hy l i x).length=l.length:=by rw[Jk];simp
section
variable {β cH:Nat->Nat}{L bB:List LE}{h aa:J}{w bz:bD}
theorem Ko(a:x.ji L)(b:∀i,fP L i->cH i=β i):x.c1 cH=x.c1 β:=by
 cases x<;>simp only[aN.ji]at a<;>first|rfl|grind [aN.c1]
theorem apB(b:x.ok L)(d:∀i,fP L i->cH i=β i):x.c cH=x.c β:=by
 cases x with
 |a xs=>
  show Kd _=Kd _;congr 2;exact ny λy e=>Ko (b y e) d
 |v x=>rfl
 |p i off=>exact Ko (x:=.p i off) b d
 |s i off l c=>exact Ko (x:=.s i off l c) b d
 |m i=>exact Ko (x:=.m i) b d
theorem HG(b:∀x∈cs,x.ji L)(c:∀i,fP L i->cH i=β i):cs.map (aN.c1 cH)=cs.map (aN.c1 β):=ny λy a=>Ko (b y a) c
theorem QB{i:Nat}(a:fP L i):i<L.length:=by
 obtain⟨l,al,_⟩:=a;exact oo al
theorem wa{i:Nat} x(a:fP L i):fP (L++[x]) i:=by
 obtain⟨l,al,b⟩:=a;exact⟨l,by rw[yH,aS (oo al)];exact al,b⟩
theorem dF.agree{n:Nat}{e:cg}{a:Act}(r:dF n β L e a)(b:∀i,fP L i->cH i=β i)(hm:∀i,fP L i->fP bB i):dF n cH bB e a:=⟨r.defers,r.size,λt=>by rw[r.env t,apB (r.ok t) b],λt=>aCy (r.ok t) hm⟩
theorem dF.put{n:Nat}{e:cg}{a:Act}(r:dF n β L e a){d:Nat}(g:d<n){x:aN}(b:x.ok L):dF n β L (jR e d x) (a.put (some d) (x.c β)):=by
 refine⟨r.defers,by simp[YK,r.size],λt=>?_,λt=>?_⟩;have f:=r.size;by_cases i:t=d;simp_all[YK,jR,f,g];have he:=r.env t;rw[GU]at he;have:ix t d=false:=by
  cases j:ix t d with
  |true=>simp_all
  |false=>rfl
 simp only[YK,jR,this,vw,GU,Array.getElem?_setIfInBounds]
 grind
 unfold jR;cases h:ix t d with
 |true=>exact b
 |false=>exact r.ok t
theorem dm.push{am:J}{bh:bD}(m:dm am bh β L h w)(v:ei L){cells:List aN}(av:∀x∈cells,x.ji L)(ty:Nat):
 ∃cH,(∀i,i<L.length->cH i=β i)/\cH L.length=w.heap.size/\
  dm am bh cH (L++[.own cells ty]) h {w with heap:=w.heap.push (.cells (cells.map (aN.c1 β)).toArray ty)}:=by
 refine⟨λi=>if i=L.length then w.heap.size else β i,λi c=>aL,bc,?_⟩
 have r:∀i,fP L i->(if i=L.length then w.heap.size else β i)=β i:=λi c=>by
  have:=QB c
  grind
 have e:∀i l,cI (L++[LE.own cells ty]) i=some l->(i<L.length/\cI L i=some l)\/(i=L.length/\l= .own cells ty):=by
  intro i l al;rw[yH]at al
  grind
 have p:∀o:Nat,o<w.heap.size->(w.heap.push (.cells (cells.map (aN.c1 β)).toArray ty))[o]?=w.heap[o]? :=λo q=>by
  grind
 refine⟨⟨λo U u=>?_,λi l al=>?_⟩,λi l al a=>?_,λi o l cC al j a s he=>?_,λi l al a=>?_,λi l al a=>?_,m.os,m.tape,m.output,?_,λo q t=>?_,m.fresh⟩
 show(w.heap.push _)[o]?=some U
 rw[p o (m.cJ.hw.lt aL)]
 exact m.cJ.hw o U u
 rcases e i l al with⟨c,al⟩|⟨rfl,rfl⟩
 have d:=m.cJ.cJ i l al
 have z:(if i=L.length then w.heap.size else β i)=β i:=aL
 cases l with
 |own cs y=>
  simp only[LE.fX]at d⊢;rw[z,p _ (m.lt i _ al rfl),HG (v i cs y al) r];exact d
 |b5 b=>simp only[LE.fX]at d⊢;omega
 |row bF size A n cap xs=>
  simp only[LE.fX]at d⊢;obtain⟨⟨h1,ae⟩,C⟩:=d;refine⟨⟨h1,?_⟩,λg B=>aL⟩
  grind
 |map f k=>
  simp only[LE.fX]at d⊢
  grind
 |gone=>trivial
 simp only[LE.fX,mO]
 rw[HG av r,Array.getElem?_push,aS rfl]
 rcases e i l al with⟨c,al⟩|⟨rfl,rfl⟩
 simp only[show(i=L.length)=False from aL,nk];exact m.hole i l al a
 simp only[mO];exact m.cJ.hw.out (dM _)
 rcases e i l al with⟨c,al⟩|⟨rfl,rfl⟩<;>rcases e o cC j with⟨q,j⟩|⟨rfl,rfl⟩
 simp only[show(i=L.length)=False from aL,show(o=L.length)=False from aL,nk]at he
 exact m.inj i o l cC al j a s he
 simp only[show(i=L.length)=False from aL,nk,mO]at he
 have:=m.lt i l al a;omega
 simp only[show(o=L.length)=False from aL,nk,mO]at he
 have:=m.lt o cC j s;omega
 rfl
 show _<(w.heap.push _).size
 rw[RA]
 rcases e i l al with⟨c,al⟩|⟨rfl,rfl⟩
 simp only[show(i=L.length)=False from aL,nk];have:=m.lt i l al a;omega
 simp
 rcases e i l al with⟨c,al⟩|⟨rfl,rfl⟩
 simp only[show(i=L.length)=False from aL,nk];exact m.df i l al a
 simp only[mO];exact .inr m.size
 show _<=(w.heap.push _).size
 rw[RA];have:=m.size;omega
 show(w.heap.push _)[o]?=_
 have:=m.size
 rw[p o I]
 exact m.frame o q t
theorem ei.push(c:ei L){cells:List aN}(av:∀x∈cells,x.ji L) ty:ei (L++[.own cells ty]):=by
 intro i cs t a x b;rw[yH]at a;split at a;exact Bj (c i cs t a x b) λi=>wa _;split at a;injection a with a;injection a with h1 ae;subst h1;exact Bj (av x b) λi=>wa _
 grind
theorem Xp cells ty:fP (L++[.own cells ty]) L.length:=⟨.own cells ty,by rw[yH];simp,rfl⟩
def wr(w:bD)(b ty:Nat)(cs:List aA):bD:={w with heap:=w.heap.setIfInBounds b (.cells cs.toArray ty (0,0))}
theorem alo w b ty cs o:(wr w b ty cs).heap[o]?=if b=o then(if b<w.heap.size then some (.cells cs.toArray ty (0,0))else none)else w.heap[o]? :=by
 grind [wr]
theorem o0 w{b ty o:Nat} cs(a:o≠b):(wr w b ty cs).heap[o]?=w.heap[o]? :=by rw[alo,aC (Ne.symm a)]
theorem M0 w{b ty:Nat} cs(a:b<w.heap.size):(wr w b ty cs).heap[b]?=some (.cells cs.toArray ty (0,0)):=by rw[alo,aS rfl,aS a]
theorem Rn w b ty cs:(wr w b ty cs).heap.size=w.heap.size:=by simp[wr]
theorem aij{α:Type}:∀off(l:List α) y aV r,over l off (y::aV)=some r->off<l.length/\over (l.set off y) (off+1) aV=some r
 |0,[],y,aV,r,h=>by grind [over]
 |0,x::l,y,aV,r,h=>by
  grind [over]
 |off+1,[],y,aV,r,h=>by grind [over]
 |off+1,x::l,y,aV,r,h=>by
  simp only[over]at h;split at h;rename_i d c;injection h with h;subst h;obtain⟨a,b⟩:=aij off l y aV d c;simp_all[over,b]
  grind
theorem WV{α:Type}:∀off(l r:List α),over l off []=some r->r=l
 |0,l,r,h=>by grind [over]
 |off+1,[],r,h=>by grind [over]
 |off+1,x::l,r,h=>by
  simp only[over]at h;split at h;rename_i b a;injection h with h;subst h;rw[WV off l b a]
  grind
theorem aFb{w:bD}{cs:List aA}(a:w.heap[b]?=some (.cells cs.toArray ty (0,0))) v:w.setCell ⟨b,off,none⟩ v=wr w b ty (cs.set off v):=by
 have d:b<w.heap.size:=(AK.1 a).1;have c:w.heap[b]= .cells cs.toArray ty (0,0):=by
  grind
 simp only[World.setCell,wr];congr 1
 grind
theorem XG{P:fk}{b ty:Nat}:∀aI w cs a off i,w.heap[b]?=some (.cells cs.toArray ty (0,0))->(∀u∈aI,u.oneCell'=true)->over cs (off+i) aI=some a->(aj8 ⟨b,off,none⟩ aI i).run P w= .ok () (if aI=[]then w else wr w b ty a)
 |[],w,cs,a,off,i,_,_,_=>by rfl
 |v::aI,w,cs,a,off,i,c,h1,e=>by
  obtain⟨h,d⟩:=aij _ _ _ _ _ e;have j:b<w.heap.size:=(AK.1 c).1;have av:w.cell? ((oA b off none).add i)=some cs[off+i]:=by
   rw[add_lit];simp[NF,c,h]
  have g:w.frozen? ((oA b off none).add i)=false:=by
   rw[add_lit];simp[World.frozen?,c]
  simp only[aj8,iT,run_store P w _ v _ (h1 v bc),av,g,ve,nk,jc];rw[add_lit,aFb c,XG aI _ (cs.set (off+i) v) a off (i+1) (M0 w _ j) (λu hu=>h1 u (by simp[hu])) I];rw[aC (show¬(v::aI=[])from bc)];split;rename_i f;subst f;rw[WV _ _ _ d];simp[wr]
theorem QN{P:fk}(h:km P t=true){w:bD}{cs c:List aA}(al:v.cells.toList.length=jQ P t)(e:w.heap[b]?=some (.cells cs.toArray ty (0,0)))(h1:∀u∈v.cells.toList,u.oneCell'=true)(a:over cs off v.cells.toList=some c):(aj9 t ⟨b,off,none⟩ v).run P w= .ok () (wr w b ty c):=by
 obtain⟨i,d⟩:=AC h;have f:v.cells.size=i.size:=by rw[<-AD d,<-al];simp
 have j:b<w.heap.size:=(AK.1 e).1;simp only[aj9,iT,run_sizeOf d,jc,f,ne_eq,not_true_eq_false,nk];rw[XG v.cells.toList w cs c off 0 e h1 a];split;rename_i g;rw[g]at a;rw[WV _ _ _ a];congr 1;unfold wr;have:w.heap.setIfInBounds b (.cells cs.toArray ty (0,0))=w.heap:=by
  grind
 rw[this];rfl
theorem NQ(b:cellsOf x=some cs):(x.c β).cells.toList=cs.map (aN.c1 β):=by
 cases x with
 |a xs=>injection b with b;grind [aN.c,Value.cells]
 |v y=>
  cases y with
  |agg d=>
   injection b with b;subst b;show d.toList=_;rw[EZ]
  |tuple d=>cases b
  |_=>injection b with b;subst b;rfl
 |_=>injection b with b;subst b;rfl
theorem ah5(b:I1 cs=true):∀u∈cs.map (aN.c1 β),u.oneCell'=true:=by
 induction cs with
 |nil=>simp
 |cons x l c=>
  simp only[I1,iv]at b;intro u hu;simp only[er,List.mem_cons]at hu;rcases hu with rfl|hu;cases x with
  |v y=>cases y<;>first|rfl|grind [one]
  |a xs=>grind [one]
  |_=>rfl
  grind
theorem Mj{α c:Type}(f:α->c):∀off l aV r,over l off aV=some r->over (l.map f) off (aV.map f)=some (r.map f)
 |0,l,[],r,h=>by grind [over]
 |0,[],y::aV,r,h=>by grind [over]
 |0,x::l,y::aV,r,h=>by
  simp only[over]at h;split at h;rename_i b a;injection h with h;subst h;simp[over,Mj f 0 l aV b a]
  grind
 |off+1,[],aV,r,h=>by grind [over]
 |off+1,x::l,aV,r,h=>by
  simp only[over]at h;split at h;rename_i b a;injection h with h;subst h;simp[over,Mj f off l aV b a]
  grind
theorem WT{l aV r:List α}(a:over l off aV=some r){x:α}(b:x∈r):x∈l\/x∈aV:=by
 obtain⟨_,_,d⟩:=Mi _ _ _ _ a;obtain⟨o,c⟩:=List.mem_iff_getElem?.1 b
 grind
theorem dm.write{am:J}{bh:bD}(m:dm am bh β L h w){i:Nat}{l:LE}(j:cI L i=some l)(q:l.live=true)(W:cC.live=true)(T:l.isRow=cC.isRow){cs:List aA}(S:cC.fX β i (wr w (β i) ty cs)):dm am bh β (hy L i cC) h (wr w (β i) ty cs)/\(∀o,fP L o->fP (hy L i cC) o):=by
 have x:=oo j;have Y:=m.lt i l j q;have r:∀o k,cI (hy L i cC) o=some k->(o=i/\k=cC)\/(o≠i/\cI L o=some k):=by
  intro o k hk;rw[rb _ _ _ _ x]at hk
  grind
 have v:∀o k,o≠i->cI L o=some k->k.live=true->β o≠β i:=λo k a hk d e=>a (m.inj o i k l hk j d q e);refine⟨⟨⟨λo U t=>?_,λo k hk=>?_⟩,λo k hk d=>?_,λo P k C hk I d D he=>?_,λo k hk d=>?_,λo k hk d=>?_,m.os,m.tape,m.output,by rw[Rn];exact m.size,λo a F=>?_,m.fresh⟩,λo a=>?_⟩;have u:o≠β i:=λe=>by rw[e,m.hole i l j q]at t;cases t
 rw[o0 w cs u];exact m.cJ.hw o U t;rcases r o k hk with⟨rfl,rfl⟩|⟨a,hk⟩;omega;have p:=m.cJ.cJ o k hk;cases k with
 |own V X=>simp only[LE.fX]at p⊢;rw[o0 w cs (v o _ a hk rfl)];exact p
 |b5 b=>exact p
 |row bF size A n cap xs=>
  simp only[LE.fX]at p⊢;obtain⟨⟨h1,ae⟩,z⟩:=p;refine⟨⟨h1,?_⟩,z⟩;rcases ae with ae|⟨g,c,K,s,H,N,O⟩
  grind
  injection s with s Z Q;have R:=z _ s;subst s;exact .inr ⟨g,c,K,by rw[Q],H,by rw[o0 w cs (by have:=v o _ a hk rfl;grind)];exact N,O⟩
 |map f C=>simp only[LE.fX]at p⊢;rw[o0 w cs (v o _ a hk rfl)];exact p
 |gone=>trivial
 rcases r o k hk with⟨rfl,rfl⟩|⟨a,hk⟩;exact m.hole o l j q;exact m.hole o k hk d;rcases r o k hk with⟨G,y⟩|⟨G,y⟩<;>rcases r P C I with⟨M,B⟩|⟨M,B⟩;omega
 grind
 grind
 exact m.inj _ _ _ _ y B d D he;rw[Rn];rcases r o k hk with⟨rfl,rfl⟩|⟨a,hk⟩;omega;exact m.lt o k hk d;rcases r o k hk with⟨rfl,rfl⟩|⟨a,hk⟩;exact m.df _ l j q;exact m.df o k hk d;by_cases e:o=β i;subst e;rcases m.df i l j q with e|e
 grind
 omega;rw[o0 w cs e];exact m.frame o a F;obtain⟨k,hk,E⟩:=a;by_cases e:o=i;subst e;rw[j]at hk;injection hk with hk;subst hk;exact⟨cC,by rw[rb _ _ _ _ x,aS rfl],aL⟩;exact⟨k,by rw[rb _ _ _ _ x,aC e];exact hk,E⟩
theorem ei.ajF(c:ei L){i:Nat}(d:i<L.length)(hm:∀o,fP L o->fP (hy L i (.own cs ty)) o)(av:∀x∈cs,x.ji L):ei (hy L i (.own cs ty)):=by
 intro o e t a x b;rw[rb _ _ _ _ d]at a;split at a;injection a with a;injection a with h1 ae;subst h1;exact Bj (av x b) hm;exact Bj (c o e t a x b) hm
end
abbrev fZ:=cg->List LE->J->Prop
variable {K:fZ}
def hJ(n:Nat)(d:Option Nat)(x:aN)(e:cg)(L:List LE)(h:J)(K:fZ):Prop:=
 match d with
 |some d=>bif Sa d n then K (jR e d x) L h else False
 |none=>K e L h
def KO:Nat->(Nat->Prop)->Prop
 |0,K=>K 0
 |n+1,K=>KO n λm=>K (m+1)
theorem Ff:∀n K,KO n K=K n
 |0,_=>rfl
 |n+1,K=>Ff n λm=>K (m+1)
def Fe:List LE->(List LE->Prop)->Prop
 |[],K=>K []
 |l::r,K=>Fe r λr=>K (l::r)
theorem ye:∀L K,Fe L K=K L
 |[],_=>rfl
 |l::r,K=>ye r λr=>K (l::r)
inductive Nc(h:J)(K:Nat->Prop):Prop
 |mk (k:∀b,h b=none->K b)
def abh:Nat->List LE->Nat->Option Nat
 |0,_,_=>none
 |a+1,L,i=>match cI L i with
  |some (.own cs _)=>(match r5 L cs with
   |some _=>some i
   |none=>(match L7 L cs with
    |some o=>abh a L o
    |none=>none))
  |_=>none
def nt:Nat->List aN->(List LE->J->Prop)->List LE->J->Prop
 |0,_,_,_,_=>False
 |a+1,xs,K,L,h=>match L6 L xs with
  |none=>K L h
  |some i=>match abh 40 L i with
   |none=>False
   |some i=>match cI L i with
    |some (.own cs ty)=>(match r5 L cs with
     |some aI=>Nc h λb=>Fe (hy L i (.b5 b)) λL=>nt a xs K L (h.put b (.cells aI.toArray ty (0,0)))
     |none=>False)
    |_=>False
def bw(h:J)(bF size:Nat)(A:Option aE)(n cap:Nat)(xs:List aA):Prop:=xs.length=n*size/\((A=none/\n=0/\cap=0)\/∃g a,A=some ⟨g,0,none⟩/\h g=some (.cells a bF (0,0))/\n<=cap/\cap<=eQ/\a.size=cap*size/\a.toList.take (n*size)=xs)
def en(h:J):Option aE->J
 |some g=>h.del g.block
 |none=>h
inductive hL(K:List LE->J->Prop):List LE->J->Prop
 |ag {L:List LE} {h:J} (k:K L h):hL K L h
 |b5 {L:List LE} {h:J} (i bF size:Nat) (A:Option aE) (n cap:Nat) (xs:List aA) (ai:cI L i=some (.row bF size A n cap xs))
  (k:∀aa,h.le aa->bw aa bF size A n cap xs->(∀g,A=some g->h g.block=none)->hL K (hy L i .gone) aa):hL K L h
 |abs {L:List LE} {h:J} (bF size:Nat) (A:Option aE) (n cap:Nat) (xs:List aA) (aq:bw h bF size A n cap xs)
  (k:hL K (L++[.row bF size A n cap xs]) (en h A)):hL K L h
inductive alV(P:fk)(f:mT)(args:Array aA)(L:List LE)(h:J)(K:aA->List LE->J->Prop):Prop
 |mk (Q:aA->J->Prop) (av:Fn P f args h Q) (k:∀v aa,Q v aa->K v L aa)
 |mb (Q:aA->J->Prop) (av:Fn P f args h Q) (k:∀v aa,Q v aa->hL (K v) L aa)
inductive JE(P:fk)(f:mT)(args:Array aA)(K:aA->List LE->J->Prop):List LE->J->Prop
 |mk {L:List LE} {h:J} (Q:aA->J->Prop) (av:Fn P f args h Q) (cP:∀v aa,Q v aa->h.le aa) (k:∀v aa,Q v aa->K v L aa):JE P f args K L h
 |b5 {L:List LE} {h:J} (i bF size:Nat) (A:Option aE) (n cap:Nat) (xs:List aA) (ai:cI L i=some (.row bF size A n cap xs))
  (k:∀aa,h.le aa->bw aa bF size A n cap xs->(∀g,A=some g->h g.block=none)->JE P f args K (hy L i .gone) aa):JE P f args K L h
inductive alW(P:fk)(f:mT)(args:Array aA)(h:J)(K:aA->J->Prop):Prop
 |mk (Q:aA->J->Prop) (av:Fn P f args h Q) (k:∀v aa,Q v aa->K v aa)
inductive JG(L:List LE)(h:J)(a:aE)(aI:List aA)(K:List LE->J->Prop):Prop
 |hp (b off ty:Nat) (cs h4:List aA) (aZ:a=⟨b,off,none⟩) (aj:h b=some (.cells cs.toArray ty (0,0))) (aU:over cs off aI=some h4) (k:K L (h.put b (.cells h4.toArray ty (0,0))))
 |row (i bF size:Nat) (g:aE) (n cap:Nat) (xs lW:List aA) (o:Nat) (ai:cI L i=some (.row bF size (some g) n cap xs)) (aZ:a=g.add o) (aU:over xs o aI=some lW)
  (k:K (hy L i (.row bF size (some g) n cap lW)) h)
inductive Src(L:List LE)(h:J)(size:Nat)(B:Option aE)(m:Nat):List aA->Prop
 |nil (hm:m=0):Src L h size B m []
 |hp (b:aE) (aI:List aA) (cy:B=some b) (al:aI.length=m*size) (av:∀o v,aI[o]?=some v->h.cell? (b.add o)=some v):Src L h size B m aI
inductive y3(bF size bytes:Nat)(A:Option aE)(n cap m:Nat)(S:List aA->Prop)(L:List LE)(K:aN->List LE->Prop):Prop
 |c0 (i:Nat) (xs aI:List aA) (ai:cI L i=some (.row bF size A n cap xs)) (an:S aI) (h1:∀u∈aI,u.oneCell'=true) (hm:n+m<=eQ) (aj:(n+m)*bytes<=140737488355328)
  (k:∀bo dI,(bo=none↔A=none/\m=0)/\n+m<=dI->K (.v (.slice bo (n+m) dI)) (hy L i (.row bF size bo (n+m) dI (xs++aI))))
 |fresh (aI:List aA) (aK:A=none) (aF:n=0) (tw:cap=0) (an:S aI) (h1:∀u∈aI,u.oneCell'=true) (hm:m<=eQ) (aj:m*bytes<=140737488355328)
  (k:∀bo dI,(bo=none↔m=0)/\m<=dI->K (.v (.slice bo m dI)) (L++[.row bF size bo m dI aI]))
 |off (i b oq N kb:Nat) (xs aI:List aA) (aK:A=some ⟨b,oq,none⟩) (ai:cI L i=some (.row bF size (some ⟨b,0,none⟩) N kb xs)) (dX:N*size=oq+n*size) (hC:n+m<=cap->kb*size=oq+cap*size) (an:S aI) (h1:∀u∈aI,u.oneCell'=true) (am:0<m) (hm:n+m<=eQ) (aj:(n+m)*bytes<=140737488355328)
  (cz:n+m<=cap->K (.v (.slice A (n+m) cap)) (hy L i (.row bF size (some ⟨b,0,none⟩) (N+m) kb (xs++aI))))
  (bS:cap<n+m->∀bq dI,n+m<=dI->K (.v (.slice (some bq) (n+m) dI)) (L++[.row bF size (some bq) (n+m) dI (xs.drop oq++aI)]))
inductive Ey(bF size bytes:Nat)(A:Option aE)(n cap m:Nat)(S:List aA->Prop)(L:List LE)(h:J)(K:aN->List LE->J->Prop):Prop
 |c0 (i:Nat) (xs aI:List aA) (ai:cI L i=some (.row bF size A n cap xs)) (an:S aI) (h1:∀u∈aI,u.oneCell'=true) (hm:n+m<=eQ) (aj:(n+m)*bytes<=140737488355328)
  (k:∀bo dI,(bo=none↔A=none/\m=0)/\n+m<=dI->K (.v (.slice bo (n+m) dI)) (hy L i (.row bF size bo (n+m) dI (xs++aI))) h)
 |fresh (aI:List aA) (aK:A=none) (aF:n=0) (tw:cap=0) (an:S aI) (h1:∀u∈aI,u.oneCell'=true) (hm:m<=eQ) (aj:m*bytes<=140737488355328)
  (k:∀bo dI,(bo=none↔m=0)/\m<=dI->K (.v (.slice bo m dI)) (L++[.row bF size bo m dI aI]) h)
 |mem (b off:Nat) (be h4 aI pT:List aA) (aK:A=some ⟨b,off,none⟩) (aj:h b=some (.cells be.toArray bF (0,0))) (an:S aI) (h1:∀u∈aI,u.oneCell'=true) (am:0<m) (oi:pT.length=n*size) (gV:∀o u,pT[o]?=some u->be[off+o]?=some u)
  (aU:n+m<=cap->over be (off+n*size) aI=some h4) (hm:n+m<=eQ) (pJ:(n+m)*bytes<=140737488355328)
  (cz:n+m<=cap->K (.v (.slice A (n+m) cap)) L (h.put b (.cells h4.toArray bF (0,0))))
  (bS:cap<n+m->∀bq dI,n+m<=dI->K (.v (.slice (some bq) (n+m) dI)) (L++[.row bF size (some bq) (n+m) dI (pT++aI)]) h)
 |off (i b oq N kb:Nat) (xs aI:List aA) (aK:A=some ⟨b,oq,none⟩) (ai:cI L i=some (.row bF size (some ⟨b,0,none⟩) N kb xs)) (dX:N*size=oq+n*size) (hC:n+m<=cap->kb*size=oq+cap*size) (an:S aI) (h1:∀u∈aI,u.oneCell'=true) (am:0<m) (hm:n+m<=eQ) (aj:(n+m)*bytes<=140737488355328)
  (cz:n+m<=cap->K (.v (.slice A (n+m) cap)) (hy L i (.row bF size (some ⟨b,0,none⟩) (N+m) kb (xs++aI))) h)
  (bS:cap<n+m->∀bq dI,n+m<=dI->K (.v (.slice (some bq) (n+m) dI)) (L++[.row bF size (some bq) (n+m) dI (xs.drop oq++aI)]) h)
 |rd (b off:Nat) (aI pT:List aA) (aK:A=some ⟨b,off,none⟩) (an:S aI) (h1:∀u∈aI,u.oneCell'=true) (am:0<m) (oi:pT.length=n*size) (gV:∀o u,pT[o]?=some u->h.cell? ((oA b off none).add o)=some u)
  (av:cap<n+m) (hm:n+m<=eQ) (pJ:(n+m)*bytes<=140737488355328)
  (bS:∀bq dI,n+m<=dI->K (.v (.slice (some bq) (n+m) dI)) (L++[.row bF size (some bq) (n+m) dI (pT++aI)]) h)
def wu(P:fk)(U:Op)(aI:List aA)(w:bD)(v:aA)(bz:bD):Prop:=∀(a:gu->aA)(q:cv),q.op=U->U.operands.toList.map a=aI->(dD a q).run P w= .ok (.value v) bz
inductive Y3(P:fk)(U:Op)(aI:List aA)(h:J)(K:aA->J->Prop):Prop
 |mk (v:aA) (af:∀w,n2 h w->wu P U aI w v w) (k:K v h)
 |put (v:aA) (b:Nat) (x y:Obj) (aj:h b=some x) (af:∀w,n2 h w->wu P U aI w v {w with heap:=w.heap.setIfInBounds b y}) (k:K v (h.put b y))
 |ajR (b:Nat) (x y:Obj) (aj:h b=some x) (af:∀w,n2 h w->∀(lA:gu->aA)(q:cv),q.op=U->U.operands.toList.map lA=aI->(dD lA q).run P w= .ok .skip {w with heap:=w.heap.setIfInBounds b y}) (k:K fS (h.put b y))
inductive alY(P:fk)(t:gv)(v:aA)(name:String)(K:mT->aA->Prop):Prop
 |mk (f:mT) (r:aA) (hm:∀w,(method (P.types.size+Made.depth) t v name).run P w= .ok (f,r) w) (k:K f r)
inductive pw(size bytes:Nat)(zero:List aA)(vd pv:Int)(K:Nat->Nat->aE->List aA->Prop):Prop
 |mk (m:Nat) (al:vd=m) (av:pv=m) (aj:m*bytes<=281474976710656) (hm:m<=9223372036854775807) (k:∀g,K m m g (tK zero.toArray (m*size)).toList)
 |one (m:Nat) (z:aA) (a7:zero=[z]) (an:size=1) (al:vd=m) (av:pv=m) (aj:m*bytes<=281474976710656) (hm:m<=9223372036854775807) (k:∀g,K m m g (bp m z))
 |room (c:Nat) (al:vd=0) (av:pv=c) (aj:c*bytes<=281474976710656) (hm:c<=9223372036854775807) (k:∀g,K 0 c g [])
inductive al2(h:J)(b ca:Nat)(ee:List Int)(v:aA)(K:J->Prop):Prop
 |mk (l:List ja) (cx:Nat) (hm:y' h b ca l cx) (k:∀jK,K (h.put b (kZ ca (upsert l ee v cx) jK)))
 |aBm (l:List ja) (cx:Nat) (hm:y' h b ca l cx) (k:K (h.put b (kZ ca (upsert l ee v cx) (if(ke l ee).isSome then cx else cx+1))))
inductive al1(h:J)(b:Nat)(K:Nat->J->Prop):Prop
 |mk (es:Array CH) (cx:Nat) (aj:h b=some (.map es cx)) (k:∀r,h r=none->K r (h.put r (.mapIter (some b) cx #[] cx)))
inductive al0(h:J)(r:Nat)(K:aA->J->Prop):Prop
 |mk (a1 yN e5 cx:Nat) (seen:Array Nat) (es:Array CH) (aq:h r=some (.mapIter (some a1) yN seen e5)) (aj:h a1=some (.map es cx)) (gV:∀x∈es.toList,x.born<yN) (aeE:yN<=e5)
  (done:(leftOf es seen).size=0->K (.tuple #[.bool false]) h)
  (more:∀e∈(leftOf es seen).toList,K (.tuple #[.bool true,e.key,e.val]) (h.put r (.mapIter (some a1) yN (seen.push e.born) cx)))
inductive alU(h:J)(r:Nat)(K:aA->Prop):Prop
 |mk (a1 yN cx:Nat) (seen:Array Nat) (es:Array CH) (e:CH) (aq:h r=some (.mapIter (some a1) yN (seen.push e.born) cx)) (aj:h a1=some (.map es cx)) (he:e∈es.toList) (aF:(es.toList.map (·.born)).Nodup)
  (k:K (.tuple #[e.key,e.val]))
def Gv:Nat->List aA->List aN
 |0,_=>[]
 |n+1,z=>(z.map .v)++Gv n z
def Cp(P:fk)(n:Nat)(f:mT)(gb:List aN)(d:Option Nat)(e:cg)(L:List LE)(h:J)(K:fZ):Prop:=
 nt 40 gb (λL h=>match pY L gb with
  |some aI=>hL (λL h=>alV P f aI.toArray L h λv L aa=>hJ n d (.v v) e L aa K) L h
  |none=>False) L h
def Jv(P:fk)(n:Nat)(f:mT)(gb:List aN)(d:Option Nat)(e:cg)(L:List LE)(h:J)(K:fZ):Prop:=
 match pY L gb with
 |some aI=>JE P f aI.toArray (λv L aa=>hJ n d (.v v) e L aa K) L h
 |none=>False
def Rl(P:fk)(n:Nat)(f:mT)(gb:List aN)(d:Option Nat)(e:cg)(L:List LE)(h:J)(K:fZ):Prop:=
 match pY L gb with
 |some aI=>alW P f aI.toArray h λv aa=>hJ n d (.v v) e L aa K
 |none=>False
def Ju(n:Nat)(bF size bytes:Nat)(A:Option aE)(m cap:Nat)(y:aN)(d:Option Nat)(e:cg)(L:List LE)(h:J)(K:fZ):Prop:=
 match y with
 |.v (.slice B k _)=>y3 bF size bytes A m cap k (Src L h size B k) L λx L=>hJ n d x e L h K
 |.s o off k _=>(match cI L o with
  |some (.own cs _)=>(match sub cs off (k*size)with
   |some r=>(match r5 L r with
    |some aI=>y3 bF size bytes A m cap k (λl=>l=aI) L λx L=>hJ n d x e L h K
    |none=>False)
   |none=>False)
  |_=>False)
 |_=>False
def Jt(n:Nat)(bF size bytes:Nat)(A:Option aE)(m cap:Nat)(y:aN)(d:Option Nat)(e:cg)(L:List LE)(h:J)(K:fZ):Prop:=
 match y with
 |.v (.slice B k _)=>hL (λL h=>Ey bF size bytes A m cap k (Src L h size B k) L h λx L h=>hJ n d x e L h K) L h
 |.s o off k _=>(match cI L o with
  |some (.own cs _)=>(match sub cs off (k*size)with
   |some r=>nt 40 r (λL h=>match r5 L r with
    |some aI=>hL (λL h=>Ey bF size bytes A m cap k (λl=>l=aI) L h λx L h=>hJ n d x e L h K) L h
    |none=>False) L h
   |none=>False)
  |_=>False)
 |_=>False
def gB(P:fk)(n:Nat)(k:mI)(d:Option Nat)(e:cg)(L:List LE)(h:J)(K:fZ):Prop:=
 match k with
 |.alloc ty zero=>KO L.length λi=>Fe (L++[.own (zero.map .v) ty]) λL=>hJ n d (.p i 0) e L h K
 |.box ty x=>(match cellsOf (x.get e)with
  |some cs=>KO L.length λi=>Fe (L++[.own cs ty]) λL=>hJ n d (.p i 0) e L h K
  |none=>False)
 |.Hy ty len size zero parts=>bif qQ (len*size) 16777216 then(match Bv (Gv len zero) (parts.map λp=>(p.1*size,size,p.2.get e))with
  |some cs=>KO L.length λi=>Fe (L++[.own cs ty]) λL=>hJ n d (.s i 0 len len) e L h K
  |none=>False)else False
 |.store m x y=>(match cellsOf (y.get e)with
  |some cs=>bif I1 cs&&ix cs.length m then
   (match x.get e with
   |.p i off=>(match cI L i with
    |some (.own xs ty)=>(match over xs off cs with
     |some u=>Fe (hy L i (.own u ty)) λL=>hJ n d (.v fS) e L h K
     |none=>False)
    |some (.b5 b)=>nt 40 cs (λL h=>match r5 L cs with
     |some aI=>JG L h ⟨b,off,none⟩ aI λL h=>hJ n d (.v fS) e L h K
     |none=>False) L h
    |_=>False)
   |.v (.pointer (some a))=>nt 40 cs (λL h=>match r5 L cs with
    |some aI=>JG L h a aI λL h=>hJ n d (.v fS) e L h K
    |none=>False) L h
   |_=>False)else False
  |none=>False)
 |.set x=>force (x.get e) λx=>hJ n d x e L h K
 |.HB f args=>Jv P n f (args.map (eC.get e)) d e L h K
 |.aaM f args=>Rl P n f (args.map (eC.get e)) d e L h K
 |.SV x args=>(match x.get e with
  |.v (.func (.func f) first j)=>Jv P n f (first.toList.map .v++(args.map (eC.get e)++j.toList.map .v)) d e L h K
  |_=>False)
 |.Kh _ bF size bytes _ x y=>(match x.get e with
  |.v (.slice A m cap)=>Ju n bF size bytes A m cap (y.get e) d e L h K
  |.s i 0 m cap=>(match cI L i with
   |some (.own cs ty)=>bif ix cs.length (cap*size)&&qQ m cap&&ix ty bF&&qQ cap 9223372036854775807 then
    (match r5 L cs with
    |some aI=>Nc h λb=>Ju n bF size bytes (some ⟨b,0,none⟩) m cap (y.get e) d e (hy L i .gone++[.row bF size (some ⟨b,0,none⟩) m cap (aI.take (m*size))]) h K
    |none=>False)else False
   |_=>False)
  |_=>False)
 |.call f args=>Cp P n f (args.map (eC.get e)) d e L h K
 |.E1 x args=>(match x.get e with
  |.v (.func (.func f) first j)=>Cp P n f (first.toList.map .v++(args.map (eC.get e)++j.toList.map .v)) d e L h K
  |_=>False)
 |.append _ bF size bytes _ x y=>(match x.get e with
  |.v (.slice A m cap)=>Jt n bF size bytes A m cap (y.get e) d e L h K
  |.s i 0 m cap=>(match cI L i with
   |some (.own cs ty)=>bif ix cs.length (cap*size)&&qQ m cap&&ix ty bF&&qQ cap 9223372036854775807 then
    (match r5 L cs with
    |some aI=>Nc h λb=>Jt n bF size bytes (some ⟨b,0,none⟩) m cap (y.get e) d e (hy L i .gone++[.row bF size (some ⟨b,0,none⟩) m cap (aI.take (m*size))]) h K
    |none=>False)else False
   |_=>False)
  |_=>False)
 |.Gf _ bF size bytes zero l c=>(match l.get e,c.get e with
  |.v (.int .i64 w),.v (.int .i64 pv)=>pw size bytes zero w pv λm c g xs=>hJ n d (.v (.slice (some g) m c)) e (L++[.row bF size (some g) m c xs]) h K
  |_,_=>False)
 |.PZ f j=>nt 40 (j.map (eC.get e)) (λL h=>match pY L (j.map (eC.get e))with
  |some aI=>hJ n d (.v (.func (.func f) #[] aI.toArray)) e L h K
  |none=>False) L h
 |.P0=>Nc h λb=>hJ n d (.v (.map (some b))) e L (h.put b (.map #[] 0)) K
 |.PU o x k v=>(match x.get e,Pu o (k.get e),v.get e with
  |.v (.map (some b)),some q,.v y=>al2 h b o q y λh=>hJ n d (.v fS) e L h K
  |_,_,_=>False)
 |.range x=>(match x.get e with
  |.v (.map (some b))=>al1 h b λr h=>hJ n d (.v (.pointer (some ⟨r,0,none⟩))) e L h K
  |_=>False)
 |.next x=>(match x.get e with
  |.v (.pointer (some ⟨r,0,none⟩))=>al0 h r λv h=>hJ n d (.v v) e L h K
  |_=>False)
 |.entry x=>(match x.get e with
  |.v (.pointer (some ⟨r,0,none⟩))=>alU h r λv=>hJ n d (.v v) e L h K
  |_=>False)
 |.invoke name x args=>(match x.get e with
  |.v (.iface t v)=>alY P t v name λf r=>Cp P n f (.v r::args.map (eC.get e)) d e L h K
  |_=>False)
 |.raw U=>nt 40 (U.operands.toList.map λx=>(bZ x).get e) (λL h=>match pY L (U.operands.toList.map λx=>(bZ x).get e)with
  |some aI=>hL (λL h=>Y3 P U aI h λv h=>hJ n d (.v v) e L h K) L h
  |none=>False) L h
 |k=>fH k e L h λx=>hJ n d x e L h K
section
variable {P:fk}{am:J}{bh:bD}{n:Nat}{β:Nat->Nat}{L:List LE}{h:J}{e:cg}{a:Act}{w:bD}
def jT(am:J)(bh:bD)(n:Nat)(C:(Nat->Nat)->Prop)(K:fZ)(next:Act->bD->Prop):Prop:=∀β e L h a w,C β->dm am bh β L h w->dF n β L e a->ei L->K e L h->next a w
def Any:(Nat->Nat)->Prop:=λ_=>True
theorem kM(b:jT am bh n C K next)(hC:C β)(m:dm am bh β L h w)(r:dF n β L e a)(f:ei L){d:Option Nat}(i:x.ok L)(hp:hJ n d x e L h K):next (a.put d (x.c β)) w:=by
 cases d with
 |none=>exact b _ _ _ _ _ _ hC m r f hp
 |some d=>
  simp only[hJ]at hp;cases g:Sa d n with
  |false=>grind
  |true=>
   rw[g]at hp;have j:d<n:=Nat.lt_of_succ_le (za g);exact b _ _ _ _ _ _ hC m (r.put j i) f hp
theorem s3{U:cv}(b:(dD a.eval U).run P w= .ok (.value v) bz)(hk:next (a.put U.dst v) bz):U.wp P a w next Q:=by
 unfold CL;rw[b];exact hk
theorem MZ{U:cv}(b:(dD a.eval U).run P w= .ok .skip bz)(hk:next (a.put U.dst fS) bz):U.wp P a w next Q:=by
 unfold CL;rw[b];exact hk
theorem Jd(s:lg β L h w)(d:Ao L x=some v):x.c1 β=v/\(∀xs,x≠.a xs):=by
 cases x with
 |v y=>injection d with d;exact⟨d,λ_ e=>by cases e⟩
 |a xs=>cases d
 |p i off=>
  simp only[Ao]at d;split at d;rename_i b f;injection d with d;subst d;have:=s.cJ i _ f;simp only[LE.fX]at this;subst this;exact⟨rfl,λ_ e=>by cases e⟩
  grind
 |s i off l c=>
  simp only[Ao]at d;split at d;rename_i b f;injection d with d;subst d;have:=s.cJ i _ f;simp only[LE.fX]at this;subst this;exact⟨rfl,λ_ e=>by cases e⟩
  grind
 |m i=>
  simp only[Ao]at d;split at d;rename_i b f;injection d with d;subst d;have:=s.cJ i _ f;simp only[LE.fX]at this;subst this;exact⟨rfl,λ_ e=>by cases e⟩
  grind
theorem D1(s:lg β L h w):∀cs aI,r5 L cs=some aI->cs.map (aN.c1 β)=aI
 |[],aI,a=>by cases a;rfl
 |x::cs,aI,a=>by
  simp only[r5]at a;split at a;rename_i v r b c;injection a with a;subst a;rw[er,(Jd s b).1,D1 s cs r c]
  grind
theorem aD0(s:lg β L h w)(b:raw L x=some v):x.c β=v:=by
 cases x with
 |a xs=>
  simp only[raw]at b;split at b;rename_i r d;injection b with b;subst b;show Kd _=_;rw[D1 s xs r d]
  grind
 |v y=>simp only[raw]at b;exact(Jd s b).1
 |p i off=>simp only[raw]at b;exact(Jd s (x:=.p i off) b).1
 |s i off l c=>simp only[raw]at b;exact(Jd s (x:=.s i off l c) b).1
 |m i=>simp only[raw]at b;exact(Jd s (x:=.m i) b).1
theorem yL(s:lg β L h w):∀cs aI,pY L cs=some aI->cs.map (aN.c β)=aI
 |[],aI,a=>by cases a;rfl
 |x::cs,aI,a=>by
  simp only[pY]at a;split at a;rename_i v r b d;injection a with a;subst a;rw[er,aD0 s b,yL s cs r d]
  grind
theorem dm.gm(m:dm am bh β L h w){i:Nat}{l:LE}(d:cI L i=some l)(j:l.live=true)(B:cC.live=false)(s:cC.isRow=false)(x:cC.fX β i w){U:Obj}(A:w.heap[β i]?=some U):dm am bh β (hy L i cC) (h.put (β i) U) w/\(∀o,fP L o->fP (hy L i cC) o):=by
 have f:=oo d;have u:∀o k,cI (hy L i cC) o=some k->(o=i/\k=cC)\/(o≠i/\cI L o=some k):=by
  intro o k hk;rw[rb _ _ _ _ f]at hk
  grind
 have c:∀o k,cI (hy L i cC) o=some k->k.live=true->o≠i/\cI L o=some k:=by
  grind
 refine⟨⟨⟨λo v b=>?_,λo k hk=>?_⟩,λo k hk a=>?_,λo p k n hk t a g he=>?_,λo k hk a=>?_,λo k hk a=>?_,m.os,m.tape,m.output,m.size,m.frame,λo b=>?_⟩,λo b=>?_⟩;by_cases e:o=β i;subst e;rw[J.b8]at b;grind;rw[J.cD _ _ e]at b;exact m.cJ.hw o v b;rcases u o k hk with⟨z,y⟩|⟨_,hk⟩
 grind
 exact m.cJ.cJ o k hk;obtain⟨q,hk⟩:=c o k hk a;rw[J.cD _ _ (λe=>q (m.inj o i k l hk d a j e))];exact m.hole o k hk a;exact m.inj o p k n (c o k hk a).2 (c p n t g).2 a g he;exact m.lt o k (c o k hk a).2 a;exact m.df o k (c o k hk a).2 a;by_cases e:o=β i;subst e;exact m.df i l d j;rw[J.cD _ _ e]at b;exact m.fresh o b;obtain⟨k,hk,r⟩:=b;by_cases e:o=i;exact⟨cC,by rw[rb _ _ _ _ f,aS e],s⟩;exact⟨k,by rw[rb _ _ _ _ f,aC e];exact hk,r⟩
theorem ei.wd(b:ei L){i:Nat}(d:i<L.length)(hm:∀o,fP L o->fP (hy L i cC) o)(f:∀cs ty,cC≠.own cs ty):ei (hy L i cC):=by
 intro o e t a x c;rw[rb _ _ _ _ d]at a;split at a
 grind
 exact Bj (b o e t a x c) hm
theorem yK xs{K:List LE->J->Prop}:∀b L h,dm am bh β L h w->ei L->nt b xs K L h->∃bB aa,K bB aa/\dm am bh β bB aa w/\ei bB/\(∀i,fP L i->fP bB i)/\bB.length=L.length
 |0,_,_,_,_,hp=>hp.elim
 |b+1,L,h,m,g,hp=>by
  simp only[nt]at hp;split at hp
  grind
  rename_i i f;split at hp
  grind
  rename_i i _;split at hp;rename_i cs ty a;split at hp;rename_i aI s;obtain⟨k⟩:=hp;have l:=m.hole i _ a rfl;have r:=D1 m.cJ cs aI s;have d:=m.cJ.cJ i _ a;simp only[LE.fX,r]at d;obtain⟨p,c⟩:=m.gm (cC:=.b5 (β i)) a rfl rfl rfl rfl d;obtain⟨bB,aa,h1,ae,n,aT,q⟩:=yK xs b _ _ p (g.wd (oo a) c (λ_ _ e=>by cases e)) (by have:=k (β i) l;rwa[ye]at this);exact⟨bB,aa,h1,ae,n,λo j=>aT o (c o j),by rw[q,aAF]⟩
  grind
  grind
theorem tW{K:List LE->J->Prop}(hp:hL K L h):∀β,dm am bh β L h w->ei L->∃cH bB aa,K bB aa/\dm am bh cH bB aa w/\ei bB/\(∀i,fP L i->fP bB i)/\(∀i,fP L i->cH i=β i):=by
 induction hp with
 |ag k=>grind
 | @b5 L h i bF size A n cap xs d k G=>
  intro β m v;have z:=m.cJ.cJ i _ d;simp only[LE.fX]at z;obtain⟨⟨h1,ae⟩,ax⟩:=z;have B:=oo d;rcases ae with⟨ae,aF⟩|⟨g,c,H,M,aR,di,I⟩;injection ae with aZ yo av;subst aZ;have R:∀o,fP L o->fP (hy L i .gone) o:=λo⟨q,j,Z⟩=>by
   by_cases e:o=i;exact⟨.gone,by rw[rb _ _ _ _ B,aS e],rfl⟩;exact⟨q,by rw[rb _ _ _ _ B,aC e];exact j,Z⟩
  have r:∀o q,cI (hy L i .gone) o=some q->q= .gone\/cI L o=some q:=by
   intro o q j;rw[rb _ _ _ _ B]at j
   grind
  have D:∀o q,cI (hy L i .gone) o=some q->q.live=true->cI L o=some q:=λo q j a=>by
   rcases r o q j with rfl|U;cases a;omega
  have u:dm am bh β (hy L i .gone) h w:=⟨⟨m.cJ.hw,λo q j=>by
   rcases r o q j with rfl|U;trivial;exact m.cJ.cJ o q U⟩,λo q j a=>m.hole o q (D o q j a) a,λo V q da j uD a C=>m.inj o V q da (D o q j a) (D V da uD C) a C,λo q j a=>m.lt o q (D o q j a) a,
   λo q j a=>m.df o q (D o q j a) a,m.os,m.tape,m.output,m.size,m.frame,m.fresh⟩
  obtain⟨cH,bB,aa,P,O,Q,T,S⟩:=G h (J.le_refl h) ⟨h1,.inl ⟨rfl,aF,av⟩⟩ (λg e=>by cases e) β u (v.wd B R (λ_ _ e=>by cases e))
  grind
  injection M with M ti tj;subst M;subst tj;have F:=ax _ rfl;simp only at F;have W:=m.hole i _ d rfl;rw[<-F]at W;obtain⟨u,R⟩:=m.gm (cC:=.gone) d rfl rfl rfl trivial (by rw[<-F];exact di);rw[<-F]at u;obtain⟨cH,bB,aa,P,O,Q,T,S⟩:=G (h.put g (.cells H bF (0,0))) (J.d' W) ⟨h1,.inr ⟨g,H,rfl,J.b8 _ _ _,I.1,I.2.1,I.2.2.1,I.2.2.2⟩⟩ (λbq e=>aL) β u (v.wd B R (λ_ _ e=>by cases e))
  grind
 | @abs L h bF size A n cap xs aq k G=>
  intro β m v;obtain⟨h1,ae⟩:=aq;have hblk:∃b,(∀g,A=some g->g.block=b):=by
   cases A with
   |none=>simp
   |some g=>simp
  obtain⟨b,E⟩:=hblk;have X:∀o,(∀g,A=some g->o≠g.block)->en h A o=h o:=λo p=>by
   cases A with
   |none=>rfl
   |some g=>exact J.nA h (p g rfl)
  have N:(en h A).le h:=by
   cases A with
   |none=>exact J.le_refl h
   |some g=>exact J.abj h _
  have y:∀g,A=some g->h g.block≠none:=λg e=>by
   grind
  have r:∀i l,cI (L++[LE.row bF size A n cap xs]) i=some l->(i<L.length/\cI L i=some l)\/(i=L.length/\l= .row bF size A n cap xs):=by
   intro i l al;rw[yH]at al
   grind
  have s:∀i,i<L.length->(if i=L.length then b else β i)=β i:=λi d=>by grind
  have Pd:∀i,fP L i->(if i=L.length then b else β i)=β i:=λi d=>s i (QB d);have b':∀i l,cI L i=some l->l.live=true->∀g,A=some g->β i≠g.block:=λi l al a g e he=>by
   have:=m.hole i l al a
   grind
  have u:dm am bh (λi=>if i=L.length then b else β i) (L++[.row bF size A n cap xs]) (en h A) w:=by
   refine⟨⟨m.cJ.hw.mono N,λi l al=>?_⟩,λi l al a=>?_,λi o l cC al ni a C he=>?_,λi l al a=>?_,λi l al a=>?_,m.os,m.tape,m.output,m.size,m.frame,λo p=>?_⟩;rcases r i l al with⟨d,al⟩|⟨rfl,rfl⟩;have z:=m.cJ.cJ i l al;cases l with
   |own cs jP=>simp only[LE.fX]at z⊢;rw[s i d,HG (v i cs jP al) Pd];exact z
   |b5 dN=>grind [LE.fX]
   |row=>grind [LE.fX]
   |map f k=>grind [LE.fX]
   |gone=>trivial
   simp only[LE.fX,mO];refine⟨⟨h1,?_⟩,E⟩;rcases ae with⟨rfl,rfl,rfl⟩|⟨g,H,rfl,aG,bt,cp,fh,mR⟩;simp;exact .inr ⟨g,cap,H,rfl,cU _,m.cJ.hw _ _ aG,bt,cp,fh,mR⟩;rcases r i l al with⟨d,al⟩|⟨rfl,rfl⟩;rw[s i d,X _ (b' i l al a)];exact m.hole i l al a;simp only[mO];cases A with
   |none=>cases a
   |some g=>rw[<-E g rfl];exact J.HJ h _
   rcases r i l al with⟨d,q⟩|⟨aO,q⟩<;>rcases r o cC ni with⟨p,da⟩|⟨Y,da⟩;rw[s i d,s o p]at he;exact m.inj i o l cC q da a C he;rw[s i d,aS Y]at he;subst da;cases A with
   |none=>cases C
   |some g=>grind
   rw[s o p,aS aO]at he;subst q;cases A with
   |none=>cases a
   |some g=>grind
   omega;rcases r i l al with⟨d,al⟩|⟨rfl,rfl⟩;rw[s i d];exact m.lt i l al a;simp only[mO];cases A with
   |none=>cases a
   |some g=>rw[<-E g rfl];exact m.cJ.hw.lt (y g rfl)
   rcases r i l al with⟨d,al⟩|⟨rfl,rfl⟩;rw[s i d];exact m.df i l al a;simp only[mO];cases A with
   |none=>cases a
   |some g=>rw[<-E g rfl];exact m.fresh _ (y g rfl)
   refine m.fresh o λe=>p ?_
   grind
  have gx:ei (L++[.row bF size A n cap xs]):=by
   intro i cs t d x af;rcases r i _ d with⟨_,d⟩|⟨_,d⟩;exact Bj (v i cs t d x af) λi=>wa _
   grind
  obtain⟨cH,bB,aa,P,O,Q,T,S⟩:=G _ u gx;exact⟨cH,bB,aa,P,O,Q,λo p=>T o (wa _ p),λo p=>by rw[S o (wa _ p)];grind⟩
end
section
variable {P:fk}{am:J}{bh:bD}{n:Nat}{β:Nat->Nat}{L:List LE}{h:J}{e:cg}{a:Act}{w:bD}
theorem aH0{U:cv}{V:aN->Prop}(s:lg β L h w)(b:∃bL,V bL/\bL.ok L/\Yields P U a β L h bL)(hk:∀bL,bL.ok L->V bL->next (a.put U.dst (bL.c β)) w):U.wp P a w next Q:=by
 obtain⟨bL,h1,ae,d⟩:=b;exact s3 (d w s) (hk bL ae h1)
theorem Ws{U:cv}(hC:∀cH,(∀i,i<L.length->cH i=β i)->C cH)(g:jT am bh n C K next)(m:dm am bh β L h w)(r:dF n β L e a)(b:ei L){cells:List aN}(av:∀x∈cells,x.ji L){bL:aN}(f:∀cH,cH L.length=w.heap.size->(dD a.eval U).run P w= .ok (.value (bL.c cH)) {w with heap:=w.heap.push (.cells (cells.map (aN.c1 β)).toArray ty)})(o:bL.ok (L++[.own cells ty]))(hp:hJ n U.dst bL e (L++[.own cells ty]) h K):U.wp P a w next Q:=by
 obtain⟨cH,d,l,k⟩:=m.push b av ty;exact s3 (f cH l) (kM g (hC cH d) k (r.agree (λi j=>d i (QB j)) (λi=>wa _)) (b.push av ty) o hp)
theorem IZ(az:List aA):∀x∈az.map aN.v,x.ji L:=by
 intro x a;obtain⟨v,_,rfl⟩:=cO.1 a;trivial
theorem aca{U:cv}{i:CU}(d:U.op= .alloc t)(j:P.info? t=some i)(b:i.zero=some z)(hC:∀cH,(∀i,i<L.length->cH i=β i)->C cH)(f:jT am bh n C K next)(m:dm am bh β L h w)(r:dF n β L e a)(g:ei L)(hp:gB P n (.alloc t z.cells.toList) U.dst e L h K):U.wp P a w next Q:=by
 simp only[gB,Ff,ye]at hp;refine Ws hC f m r g (cells:=z.cells.toList.map .v) (ty:=t) (IZ _) (bL:=.p L.length 0) (λcH k=>?_) (Xp _ _) hp;rw[EZ];simp[dD,d,Instr.alloc,zeroValue,Cn,j,b,newVar,newRow,aN.c,aN.c1,k]
theorem NR(b:cellsOf x=some cs)(hk:x.ok L):∀y∈cs,y.ji L:=by
 cases x with
 |a xs=>injection b with b;subst b;exact hk
 |v y=>
  cases y with
  |agg d=>injection b with b;subst b;exact IZ _
  |tuple d=>cases b
  |_=>injection b with b;subst b;intro y c;rw[hZ.1 c];trivial
 |_=>injection b with b;subst b;intro y c;rw[hZ.1 c];exact hk
theorem acb{U:cv}{x:gu}(d:U.op= .box t x)(hC:∀cH,(∀i,i<L.length->cH i=β i)->C cH)(f:jT am bh n C K next)(m:dm am bh β L h w)(r:dF n β L e a)(g:ei L)(hp:gB P n (.box t (bZ x)) U.dst e L h K):U.wp P a w next Q:=by
 simp only[gB,Ff,ye]at hp;split at hp;rename_i cs b;refine Ws hC f m r g (cells:=cs) (ty:=t) (NR b (r.sU x)) (bL:=.p L.length 0) (λcH j=>?_) (Xp _ _) hp;have:=NQ (β:=β) b;simp[dD,d,r.eval x,Instr.box,newVar,newRow,aN.c1,aN.c,j,<-this]
 grind
theorem ai3:∀k z,(Gv k z).map (aN.c1 β)=(bp k z).flatten
 |0,z=>rfl
 |k+1,z=>by rw[Gv,fw,EZ,ai3 k z,A4,qN]
theorem ai4:∀k z,∀x∈Gv k z,x.ji L
 |0,z,x,a=>by cases a
 |k+1,z,x,a=>by
  simp only[Gv,List.mem_append]at a;rcases a with a|a;exact IZ _ x a;exact ai4 k z x a
theorem acT:∀aV(cs:Array aA) off k,off+k+aV.length<=cs.size->((aV.zipIdx k).foldl (λcs x=>cs.setIfInBounds (off+x.2) x.1) cs).toList=cs.toList.take (off+k)++aV++cs.toList.drop (off+k+aV.length)
 |[],cs,off,k,h=>by simp
 |y::aV,cs,off,k,h=>by
  simp only[List.zipIdx_cons,List.foldl_cons];rw[acT aV _ off (k+1) aL];simp only[Array.toList_setIfInBounds,iJ]at h⊢;have hk:off+k<cs.toList.length:=aL;rw[show off+(k+1)=off+k+1 by omega,List.take_set,List.drop_set,aS I];rw[List.set_eq_take_append_cons_drop]
  grind
theorem WW{α:Type}:∀off(l aV r:List α),over l off aV=some r->r=l.take off++aV++l.drop (off+aV.length)
 |0,l,[],r,h=>by grind [over]
 |0,[],y::aV,r,h=>by grind [over]
 |0,x::l,y::aV,r,h=>by
  simp only[over]at h;split at h;rename_i b a;injection h with h;subst h;have:=WW 0 l aV b a
  grind
  grind
 |off+1,[],aV,r,h=>by grind [over]
 |off+1,x::l,aV,r,h=>by
  simp only[over]at h;split at h;rename_i b a;injection h with h;subst h;have:=WW off l aV b a
  grind
  grind
theorem Oh{T:Type} place(f:T->Nat×aN) g:∀(xs:List T) cs r,(∀x∈xs,place (f x).1=some ((g x).1,(g x).2.1)/\(f x).2=(g x).2.2)->Bv cs (xs.map g)=some r->Zb place (cs.map (aN.c1 β)).toArray (xs.map λx=>((f x).1,(f x).2.c β))=some (r.map (aN.c1 β)).toArray
 |[],cs,r,b,a=>by
  grind [Bv,Zb]
 |p::j,cs,r,b,a=>by
  obtain⟨g1,g2⟩:=b p (hq ..);have ae:=λx k=>b x (List.mem_cons_of_mem p k);rw[er]at a;generalize l:g p=q at a g1 g2;obtain⟨off,size,x⟩:=q;simp only[Bv]at a;split at a;rename_i aV i;cases e:ix aV.length size with
  |false=>grind
  |true=>
   rw[e]at a;simp only[pG]at a;split at a;rename_i h d;have al:aV.length=size:=rx e;have av:=NQ (β:=β) i;simp only at g1 g2;have m:=Mi _ _ _ _ d;have n:((f p).2.c β).cells.size=size:=by simp[g2,<-al,<-Array.length_toList,av]
   simp only[er,Zb,g1];rw[aC (by
    grind)]
   rw[g2,show((x.c β).cells.zipIdx).foldl (λcs(x:aA×Nat)=>cs.setIfInBounds (off+x.2) x.1) (cs.map (aN.c1 β)).toArray=(h.map (aN.c1 β)).toArray from ?_];exact Oh place f g j h r ae a;apply yY;rw[<-Array.foldl_toList,Array.toList_zipIdx,av];rw[acT _ _ off 0 aL];have:=WW _ _ _ _ (Mj (aN.c1 β) _ _ _ _ d)
   grind
   grind
  grind
theorem Og:∀b cs r,Bv cs b=some r->(∀x∈cs,x.ji L)->(∀q∈b,q.2.2.ok L)->∀x∈r,x.ji L
 |[],cs,r,a,av,_=>by grind [Bv]
 |(off,size,y)::b,cs,r,a,av,d=>by
  simp only[Bv]at a;split at a;rename_i aV e;cases g:ix aV.length size with
  |false=>grind
  |true=>
   rw[g]at a;simp only[pG]at a;split at a;rename_i h f;refine Og b h r a (λx c=>?_) λq i=>d q aL;rcases WT f c with c|c
   grind
   exact NR e (d _ (hq ..)) x c
   grind
  grind
end
section
variable {P:fk}{am:J}{bh:bD}{n:Nat}{β:Nat->Nat}{L:List LE}{h:J}{e:cg}{a:Act}{w:bD}
theorem acF{α:Type}(l:List α):∀k o,o<k*l.length->(bp k l).flatten[o]?=l[o%l.length]?
 |0,o,h=>by simp at h
 |k+1,o,h=>by
  rw[A4,qN,EF];split;rename_i a;rw[Nat.mod_eq_of_lt a];rename_i a;have b:l.length<=o:=Nat.le_of_not_lt a;rw[acF l k (o-l.length) aL,Nat.mod_eq_sub_mod b]
theorem PT{z:Array aA}{s:Nat}(a:z.size=s) k:(tK z (k*s)).toList=(bp k z.toList).flatten:=by
 subst a;apply List.ext_getElem?;intro o;by_cases b:o<k*z.size;have hp:0<z.size:=by
  grind
 have hm:o%z.size<z.size:=Nat.mod_lt _ hp;rw[acF z.toList k o I];simp[tK,b,hm];rw[l2 (by grind [tK]),l2 (by simp_all)]
theorem acc{U:cv}{t len:Nat}{b:Array (Nat×gu)}{i:CU}(u:U.op= .buildSlice t len b)(hu:P.underlying t=some (.slice el))(g:P.info? el=some i)(B:i.zero=some z)(M:z.cells.size=i.size)(hC:∀cH,(∀i,i<L.length->cH i=β i)->C cH)(E:jT am bh n C K next)(m:dm am bh β L h w)(r:dF n β L e a)(F:ei L)(hp:gB P n (.Hy el len i.size z.cells.toList (b.toList.map λp=>(p.1,bZ p.2))) U.dst e L h K):U.wp P a w next Q:=by
 simp only[gB,Ff,ye]at hp;cases v:qQ (len*i.size) 16777216 with
 |false=>grind
 |true=>
  rw[v]at hp;simp only[pG,ig]at hp;split at hp;rename_i cs y;have N:len*i.size<=16777216:=za v;refine Ws hC E m r F (cells:=cs) (ty:=el) ?_ (bL:=.s L.length 0 len len) (λcH A=>?_) (Xp _ _) hp;exact Og _ _ _ y (ai4 _ _) λq f=>by
   obtain⟨p,_,rfl⟩:=cO.1 f;exact r.sU p.2
  have d:=Oh (β:=β) (λo=>some (o*i.size,i.size)) (λp:Nat×gu=>(p.1,(bZ p.2).get e)) (λp=>(p.1*i.size,i.size,(bZ p.2).get e)) b.toList (Gv len z.cells.toList) cs (λp _=>⟨rfl,rfl⟩) y;have H:(JR (λx:Nat×gu=>(x.1,aN.c β (eC.get e (bZ x.2)))) b.toList)=(JR (λx:Nat×gu=>(x.1,a.eval x.2)) b.toList):=ny λp _=>by rw[r.eval p.2]
  simp only at d;rw[H,ai3]at d;have l:=PT (z:=z.cells) M len;by_cases f:len*i.size=0;have J:(bp len z.cells.toList).flatten=[]:=y7 (by simp_all);rw[J]at d;simp[dD,u,amb,hg hu,run_sizeOf g,f,newRow,aN.c,aN.c1,A,d,Array.range_zero'];have D:¬(len*i.size>2^24):=I;have G:((Array.range (len*i.size)).map λk=>z.cells[k%z.cells.size]!)=(bp len z.cells.toList).flatten.toArray:=yY l;have j:¬(16777216<len*i.size):=I;simp[dD,u,amb,hg hu,run_sizeOf g,j,f,zeroValue,Cn,g,B,G,d,newRow,aN.c,aN.c1,A]
  grind
theorem dm.alq(m:dm am bh β L h w){cs s:List aA}(D:h b=some (.cells cs.toArray ty (0,0))):dm am bh β L (h.put b (.cells s.toArray ty (0,0))) (wr w b ty s):=by
 have z:b<w.heap.size:=m.cJ.hw.lt aL;have q:∀i l,cI L i=some l->l.live=true->β i≠b:=λi l al j e=>by
  have:=m.hole i l al j
  grind
 refine⟨⟨λo U a=>?_,λi l al=>?_⟩,λi l al j=>?_,m.inj,λi l al j=>by rw[Rn];exact m.lt i l al j,m.df,m.os,m.tape,m.output,by rw[Rn];exact m.size,λo a t=>?_,λo a=>?_⟩;by_cases e:o=b;subst e;rw[J.b8]at a;injection a with a;subst a;exact M0 w _ z;rw[J.cD _ _ e]at a;rw[o0 w _ e];exact m.cJ.hw o U a;have d:=m.cJ.cJ i l al;cases l with
 |own v G=>simp only[LE.fX]at d⊢;rw[o0 w _ (q i _ al rfl)];exact d
 |b5 F=>exact d
 |row bF size A n cap xs=>
  simp only[LE.fX]at d⊢;obtain⟨⟨h1,ae⟩,r⟩:=d;refine⟨⟨h1,?_⟩,r⟩;rcases ae with ae|⟨g,c,x,p,u,y,B⟩
  grind
  injection p with p H C;have E:=r _ p;subst p;exact .inr ⟨g,c,x,by rw[C],u,by rw[o0 w _ (by have:=q i _ al rfl;grind)];exact y,B⟩
 |map f k=>simp only[LE.fX]at d⊢;rw[o0 w _ (q i _ al rfl)];exact d
 |gone=>trivial
 rw[J.cD _ _ (q i l al j)];exact m.hole i l al j;by_cases e:o=b;subst e;rcases m.fresh o aL with e|e
 grind
 omega;rw[o0 w _ e];exact m.frame o a t;by_cases e:o=b;subst e;exact m.fresh o aL;rw[J.cD _ _ e]at a;exact m.fresh o a
theorem WS{α:Type}(a:List α):∀off l aV r,over l off aV=some r->over (l++a) off aV=some (r++a)
 |0,l,[],r,h=>by grind [over]
 |0,[],y::aV,r,h=>by grind [over]
 |0,x::l,y::aV,r,h=>by
  simp only[over]at h;split at h;rename_i c b;injection h with h;subst h;simp[over,WS a 0 l aV c b]
  grind
 |off+1,[],aV,r,h=>by grind [over]
 |off+1,x::l,aV,r,h=>by
  simp only[over]at h;split at h;rename_i c b;injection h with h;subst h;simp[over,WS a off l aV c b]
  grind
theorem aqX{K:List LE->J->Prop}{y:aE}(m:dm am bh β L h w)(q:ei L)(hp:JG L h y aI K){t:Nat}(x:km P t=true)(A:v.cells.toList=aI)(al:aI.length=jQ P t)(h1:∀u∈aI,u.oneCell'=true):∃bB aa bz,K bB aa/\(aj9 t y v).run P w= .ok () bz/\dm am bh β bB aa bz/\ei bB/\(∀i,fP L i->fP bB i):=by
 cases hp with
 |hp b off ty cs T l r j k=>
  subst l;exact⟨_,_,_,k,QN x aL (m.cJ.hw _ _ r) aL aL,m.alq r,q,λ_=>id⟩
 |row i bF size g gH cap xs n o f l j k=>
  obtain⟨⟨O,p⟩,C⟩:=m.cJ.cJ i _ f;rcases p with⟨p,_⟩|⟨R,c,a,d,Q,S,D,F,W,H⟩
  grind
  injection d with d V G;injection d with d;subst d;subst G;have s:=C _ rfl;simp only at s;subst s;rw[l,add_lit];have U:=Mi _ _ _ _ j;have X:a.toList=xs++a.toList.drop (gH*size):=by
   simp[<-H]
  have M:over a.toList (0+o) aI=some (n++a.toList.drop (gH*size)):=by
   have N:=WS (a.toList.drop (gH*size)) _ _ _ _ j
   grind
  have E:=QN (P:=P) x (b:=β i) (off:=0+o) (ty:=bF) (v:=v) (w:=w) (cs:=a.toList) aL I aL (by rw[A];exact M);obtain⟨B,z⟩:=m.write (cC:=.row bF size (some ⟨β i,0,none⟩) gH cap n) f rfl rfl rfl (ty:=bF) (cs:=n++a.toList.drop (gH*size)) (by
   refine⟨⟨I,.inr ⟨β i,cap,_,rfl,cU _,M0 w _ (m.lt i _ f rfl),D,F,?_,?_⟩⟩,λg e=>aL⟩
   grind
   grind)
  exact⟨_,_,_,k,E,B,q.wd (oo f) z (λ_ _ e=>by cases e),z⟩
theorem arh{U:cv}{x y:gu}(A:U.op= .store t x y)(E:km P t=true)(C:jT am bh n Any K next)(m:dm am bh β L h w)(r:dF n β L e a)(q:ei L)(hp:gB P n (.store (jQ P t) (bZ x) (bZ y)) U.dst e L h K):U.wp P a w next Q:=by
 have D:=r.eval x;have B:=r.eval y;simp only[gB]at hp;split at hp;rename_i cs G;cases j:(I1 cs&&ix cs.length (jQ P t))with
 |false=>grind
 |true=>
  rw[j]at hp;simp only[iv]at j;simp only[pG]at hp;have ev:cs.length=jQ P t:=rx j.2;have I:=NQ (β:=β) G;have h1:=ah5 (β:=β) j.1;have raw:∀g:aE,((bZ x).get e).c β= .pointer (some g)->nt 40 cs (λL h=>match r5 L cs with
   |some aI=>JG L h g aI λL h=>hJ n U.dst (.v fS) e L h K
   |none=>False) L h->U.wp P a w next Q:=by
   intro g s Z
   obtain⟨bB,aa,F,k,X,l,_⟩:=yK cs _ _ _ m q Z
   split at F
   rename_i aI Y
   have ao:=D1 k.cJ cs aI Y
   obtain⟨nx,ae,W,M,J,O,R,T⟩:=aqX (P:=P) k X F E (v:=((bZ y).get e).c β) aL aL aL
   exact MZ (bz:=W) (by simp[dD,A,D,B,s,amg,ru,J]) (kM C trivial O (r.agree (λ_ _=>rfl) λi d=>T i (l i d)) R (x:=.v fS) trivial M)
   grind
  split at hp;rename_i i off p;split at hp;rename_i xs ty d;split at hp;rename_i o H;have u:=m.cJ.cJ i _ d;simp only[LE.fX]at u;have N:=Mj (aN.c1 β) _ _ _ _ H;have V:=QN (P:=P) E (b:=β i) (off:=off) (ty:=ty) (v:=((bZ y).get e).c β) (w:=w) aL u aL (by rw[I];omega);have S:∀z∈o,z.ji L:=λz f=>by
   rcases WT H f with f|f;exact q i xs ty d z f;exact NR G (r.sU y) z f
  obtain⟨k,l⟩:=m.write (cC:=.own o ty) d rfl rfl rfl (ty:=ty) (cs:=o.map (aN.c1 β)) (by simp only[LE.fX];exact M0 w _ (m.lt i _ d rfl));exact MZ (bz:=wr w (β i) ty (o.map (aN.c1 β))) (by simp_all[dD,A,D,B,p,aN.c1,aN.c,amg,ru,V]) (kM C trivial k (r.agree (λ_ _=>rfl) l) (q.ajF (oo d) l S) (x:=.v fS) trivial (by rwa[ye]at hp))
  grind
  rename_i b d;exact raw ⟨b,off,none⟩ (by rw[p];exact XQ m.cJ d) hp
  grind
  rename_i g p;exact raw g (by rw[p];rfl) hp
  grind
 grind
theorem Cj{args:Array aA}(a:∃fn,P.funcs[f]?=some fn/\fn.body.isSome=true/\(fn.name== "runtime.NumGoroutine")=false):(callFunc f args).run P w= .ok (.enter f args) w:=by
 obtain⟨fn,h1,ae,b⟩:=a;have aT:fn.body.isNone=false:=by simp_all
 simp only[callFunc,iT,run_program,jc,h1,b,aT,ve,nk,l3]
theorem dm.ext(m:dm am bh β L h w){aa:J}(x:Ext h w aa bz):dm am bh β L aa bz:=by
 have hblk:∀i l,cI L i=some l->l.live=true->bz.heap[β i]?=w.heap[β i]? :=λi l al e=>x.frame _ (m.lt i l al e) (m.hole i l al e);refine⟨⟨x.hw,λi l al=>?_⟩,λi l al e=>?_,m.inj,λi l al e=>A7 (m.lt i l al e) x.size,m.df,x.os.trans m.os,x.tape.trans m.tape,x.output.trans m.output,lf m.size x.size,λo n s=>?_,λo n=>?_⟩;have d:=m.cJ.cJ i l al;cases l with
 |own cs ty=>simp only[LE.fX]at d⊢;rw[hblk i _ al rfl];exact d
 |b5 b=>exact d
 |row bF size A gH cap xs=>
  simp only[LE.fX]at d⊢;obtain⟨⟨h1,ae⟩,q⟩:=d;refine⟨⟨h1,?_⟩,q⟩;rcases ae with ae|⟨g,c,u,j,t,v,y⟩
  grind
  injection j with j B z;have p:=q _ j;subst j;simp only at p;refine .inr ⟨g,c,u,by rw[z],t,?_,y⟩;rw[p,hblk i _ al rfl,<-p];exact v
 |map f k=>simp only[LE.fX]at d⊢;rw[hblk i _ al rfl];exact d
 |gone=>trivial
 cases r:aa (β i)with
 |none=>rfl
 |some U=>
  rcases x.fresh (β i) aL with a|a;exact absurd (m.hole i l al e) a;have:=m.lt i l al e;omega
 have:h o=none:=by
  cases r:h o with
  |none=>rfl
  |some U=>
   rcases m.fresh o aL with a|a
   grind
   omega
 rw[x.frame o (A7 n m.size) this];exact m.frame o n s;rcases x.fresh o n with a|a;exact m.fresh o a;exact .inr (lf m.size a)
theorem Yw{U:cv}{gb:List aN}(j:jT am bh n Any K next)(m:dm am bh β L h w)(r:dF n β L e a)(z:ei L)(hp:Cp P n f gb U.dst e L h K)(p:∀aI,gb.map (aN.c β)=aI->(∃fn,P.funcs[f]?=some fn/\fn.body.isSome=true/\(fn.name== "runtime.NumGoroutine")=false)->(dD a.eval U).run P w= .ok (.enter f aI.toArray) w):U.wp P a w next Q:=by
 unfold Cp at hp;obtain⟨M,h1,l,m1,D,G,_⟩:=yK gb _ _ _ m z hp;split at l;rename_i aI C;have av:=yL m1.cJ gb aI C;obtain⟨s,F,ae,A,m2,q,I,H⟩:=tW l β m1 D;have o:dF n s F e a:=(r.agree (λ_ _=>rfl) G).agree H I;cases A with
 |mk au b k=>
  unfold CL;rw[p aI av b.body,J5];refine(b.run w m2.cJ.hw).mono ?_;rintro E bz ⟨v,aa,rfl,i,d⟩;exact kM j trivial (m2.ext d) o q (x:=.v v) trivial (k v aa i)
 |mb au b k=>
  unfold CL;rw[p aI av b.body,J5];refine(b.run w m2.cJ.hw).mono ?_;rintro E bz ⟨v,aa,rfl,i,d⟩;obtain⟨y,N,J,B,m3,u,t,g⟩:=tW (k v aa i) s (m2.ext d) q;exact kM j trivial m3 (o.agree g t) u (x:=.v v) trivial B
 grind
theorem aq8{U:cv}{args:Array gu}{j:Array gv}(b:U.op= .call {callee:=.value (.func f),args:=args,argTypes:=j})(c:jT am bh n Any K next)(m:dm am bh β L h w)(r:dF n β L e a)(d:ei L)(hp:gB P n (.call f (args.toList.map bZ)) U.dst e L h K):U.wp P a w next Q:=by
 simp only[gB]at hp;refine Yw c m r d hp λaI i g=>?_;have he:args.map a.eval=aI.toArray:=by
  rw[<-i];apply yY;simp only[AM,ig];exact ny λx _=>r.eval x
 simp[dD,b,u5,JD,Act.eval,invoke,he,Cj g]
theorem Tt{U:cv}{x:gu}{args:Array gu}{s:Array gv}(g:U.op= .call {callee:=.value x,args:=args,argTypes:=s})(i:jT am bh n Any K next)(m:dm am bh β L h w)(r:dF n β L e a)(j:ei L)(hp:gB P n (.E1 (bZ x) (args.toList.map bZ)) U.dst e L h K):U.wp P a w next Q:=by
 simp only[gB]at hp;have b:=r.eval x;split at hp;rename_i f first q t
 rw[t]at b;refine Yw i m r j hp λaI p k=>?_;have he:first++args.map a.eval++q=aI.toArray:=by
  rw[<-p];apply yY;simp only[Array.toList_append,AM,fw,ig];rw[List.append_assoc];have d:∀l:List aA,l.map (aN.c β∘aN.v)=l:=λl=>by
   induction l with
   |nil=>rfl
   |cons y l o=>rw[er,o];rfl
  rw[d,d];congr 2;exact ny λy _=>r.eval y
 simp only[dD,g,u5,JD,b,aN.c,aN.c1,invoke,iT,l3,jc];rw[he,Cj k]
 grind
theorem arb{U:cv}{first b:Array gu}(g:U.op= .makeFunc (.func f) first b)(d:first=#[])(i:jT am bh n Any K next)(m:dm am bh β L h w)(r:dF n β L e a)(j:ei L)(hp:gB P n (.PZ f (b.toList.map bZ)) U.dst e L h K):U.wp P a w next Q:=by
 simp only[gB]at hp;obtain⟨p,h1,c,m1,l,o,_⟩:=yK _ _ _ _ m j hp;split at c;rename_i aI k;have av:=yL m1.cJ _ aI k;have he:b.map a.eval=aI.toArray:=by
  rw[<-av];apply yY;simp only[AM,ig];exact ny λx _=>r.eval x
 exact s3 (bz:=w) (v:=.func (.func f) #[] aI.toArray) (by simp[dD,g,d,Instr.makeFunc,he]) (kM i trivial m1 (r.agree (λ_ _=>rfl) o) l (x:=.v _) trivial c)
 grind
end
section
variable {P:fk}{am:J}{bh:bD}{n:Nat}{β:Nat->Nat}{L:List LE}{h:J}{e:cg}{a:Act}{w:bD}
theorem dm.grow(m:dm am bh β L h w)(aX:ei L){i bF gH t u:Nat}{bo:Option aE}{C:List aA}(s:cI L i=some (.row bF size A gH cap xs))(v:w.grownBy bz (Ht (.slice A gH cap)))(lG:bz.ownsRow 0 bF size (.slice bo t u) t C)(nI:Ht (.slice bo t u)=Ht (.slice A gH cap)\/Ht (.slice bo t u)=some w.heap.size):∃cH,(∀o,fP L o->cH o=β o)/\dm am bh cH (hy L i (.row bF size bo t u C)) h bz/\(∀o,fP L o->fP (hy L i (.row bF size bo t u C)) o)/\(∀o,o≠i->cH o=β o):=by
 have V:=oo s;obtain⟨⟨_,_⟩,aJO⟩:=m.cJ.cJ i _ s;have hblk:∃b,(∀g,bo=some g->g.block=b)/\(bo.isSome=true->(A.isSome=true/\b=β i)\/b=w.heap.size):=by
  cases bo with
  |none=>simp
  |some g=>
   refine⟨g.block,λbq e=>aL,λ_=>?_⟩;simp only[Ht]at nI
   grind
 obtain⟨b,aj,I⟩:=hblk;have M:∀o,o<w.heap.size->(∀g,A=some g->o≠g.block)->bz.heap[o]?=w.heap[o]? :=λo a R=>v.block o a (by
  grind [Ht])
 have R:∀o l,o≠i->cI L o=some l->l.live=true->∀g,A=some g->β o≠g.block:=λo l a al x g e he=>by
  refine a (m.inj o i l _ al s x (by rw[e];rfl) ?_)
  grind
 have p:∀o,o≠i->(if o=i then b else β o)=β o:=λo a=>aC a;have O:∀o,fP L o->(if o=i then b else β o)=β o:=λo⟨l,al,aq⟩=>p o λe=>by
  subst e;rw[s]at al;injection al with al;subst al;cases aq
 have y:∀o k,cI (hy L i (.row bF size bo t u C)) o=some k->(o=i/\k= .row bF size bo t u C)\/(o≠i/\cI L o=some k):=by
  intro o k hk;rw[rb _ _ _ _ V]at hk
  grind
 have X:∀o l,o≠i->cI L o=some l->l.live=true->bz.heap[β o]?=w.heap[β o]? :=λo l a al x=>M _ (m.lt o l al x) (λg e=>R o l a al x g e);have adl:∀g,A=some g->h g.block=none:=λg e=>by
  have:=m.hole i _ s (by rw[e];rfl)
  grind
 have J:bo.isSome=true->h b=none:=λe=>by
  rcases I e with⟨j,d⟩|d
  grind
  rw[d];exact m.cJ.hw.out (dM _)
 have B:∀o l,o≠i->cI L o=some l->l.live=true->bo.isSome=true->β o≠b:=λo l a al x e he=>by
  rcases I e with⟨j,d⟩|d
  grind
  have:=m.lt o l al x;omega
 refine⟨λo=>if o=i then b else β o,O,⟨⟨λo U aU=>?_,λo k hk=>?_⟩,λo k hk n=>?_,λo D k K hk bO n H he=>?_,λo k hk n=>?_,λo k hk n=>?_,v.os.trans m.os,v.tape.trans m.tape,v.output.trans m.output,lf m.size v.size,λo a Y=>?_,m.fresh⟩,λo a=>?_,p⟩;rw[M o (m.cJ.hw.lt aL) (λg e q=>aL)];exact m.cJ.hw o U aU;rcases y o k hk with⟨j,d⟩|⟨a,hk⟩
 grind [LE.fX]
 have E:=m.cJ.cJ o k hk;cases k with
 |own cs ty=>simp only[LE.fX]at E⊢;rw[p o a,X o _ a hk rfl,HG (aX o cs ty hk) O];exact E
 |b5 dN=>grind [LE.fX]
 |row Z aKp dT dA jV aKw=>
  simp only[LE.fX]at E⊢;rw[p o a];obtain⟨⟨h1,ae⟩,Q⟩:=E;refine⟨⟨h1,?_⟩,Q⟩;rcases ae with ae|⟨g,c,S,z,P,T,W⟩
  grind
  injection z with z ti tj;have G:=Q _ z;subst z;simp only at G;refine .inr ⟨g,c,S,by rw[tj],P,?_,W⟩;rw[G,X o _ a hk rfl,<-G];exact T
 |map f bS=>grind [LE.fX]
 |gone=>trivial
 rcases y o k hk with⟨j,d⟩|⟨a,hk⟩;subst d;simp only[aS j];exact J n;simp only[p o a];exact m.hole o k hk n;rcases y o k hk with⟨j,d⟩|⟨j,d⟩<;>rcases y D K bO with⟨r,F⟩|⟨r,F⟩;omega;subst d;simp only[aS j,p D r]at he;exact absurd he.symm (B D K r F H n);subst F;simp only[aS r,p o j]at he;exact absurd he (B o k j d n H);simp only[p o j,p D r]at he;exact m.inj o D k K d F n H he;rcases y o k hk with⟨j,d⟩|⟨a,hk⟩;subst d;simp only[aS j];cases bo with
 |none=>cases n
 |some g=>
  rcases lG.2 with⟨q,_⟩|⟨g2,c,S,z,P,T,W⟩
  grind
  grind
 simp only[p o a];exact A7 (m.lt o k hk n) v.size;rcases y o k hk with⟨j,d⟩|⟨a,hk⟩;subst d;simp only[aS j];rcases I n with⟨d,r⟩|r;rw[r];exact m.df i _ s d;rw[r];exact .inr m.size;simp only[p o a];exact m.df o k hk n;rw[M o (A7 a m.size) (λg e q=>?_)];exact m.frame o a Y;rcases m.df i _ s (by rw[e];rfl)with bP|bP
 grind
 grind
 obtain⟨k,hk,N⟩:=a;by_cases e:o=i;subst e;rw[s]at hk;injection hk with hk;subst hk;cases N;exact⟨k,by rw[rb _ _ _ _ V,aC e];exact hk,N⟩
theorem dm.Wv(m:dm am bh β L h w)(j:ei L) bF size:dm am bh β (L++[.row bF size none 0 0 []]) h w/\ei (L++[.row bF size none 0 0 []]):=by
 have d:∀i l,cI (L++[LE.row bF size none 0 0 []]) i=some l->(cI L i=some l)\/(l= .row bF size none 0 0 []):=by
  intro i l al;rw[yH]at al
  grind
 have c:∀i l,cI (L++[LE.row bF size none 0 0 []]) i=some l->l.live=true->cI L i=some l:=λi l al a=>by
  rcases d i l al with b|rfl;omega;cases a
 refine⟨⟨⟨m.cJ.hw,λi l al=>?_⟩,λi l al a=>m.hole i l (c i l al a) a,λi o l cC al p a f=>m.inj i o l cC (c i l al a) (c o cC p f) a f,λi l al a=>m.lt i l (c i l al a) a,λi l al a=>m.df i l (c i l al a) a,m.os,m.tape,m.output,m.size,m.frame,m.fresh⟩,?_⟩;rcases d i l al with b|rfl;exact m.cJ.cJ i l b;simp only[LE.fX];exact⟨⟨bc,.inl ⟨rfl,rfl⟩⟩,λg e=>by cases e⟩;intro i cs t n x k;rcases d i _ n with b|b;exact Bj (j i cs t b x k) λi=>wa _
 grind
theorem aEJ{ty el:gv}{i:CU}(b:P.underlying t=some (.slice el))(a:P.info? el=some i){k:Nat}(e:w.ownsRow 0 el size v k xs) c:(xF #[t,t] ty #[v,.slice none 0 c]).run P w= .ok v w:=by
 rcases e.2 with⟨rfl,rfl⟩|⟨g,cap,f,rfl,_,_,d,_⟩;simp[xF,hg b,sizeOf,Cn,a,RC,alH];simp[xF,hg b,sizeOf,Cn,a,RC,alH,d,aj8]
def Bb(w:bD)(size:Nat)(B:Option aE)(k:Nat)(aI:List aA):Prop:=aI.length=k*size/\((B=none/\k=0)\/∃b,B=some b/\∀o v,aI[o]?=some v->w.cell? (b.add o)=some v)
theorem aj2(s:lg β L h w){k:Nat}(a:Src L h size B k aI):Bb w size B k aI:=by
 cases a with
 |nil hm=>
  subst hm;refine⟨bc,?_⟩;cases B with
  |none=>simp
  |some b=>simp
 |hp b aI c al av=>exact⟨al,.inr ⟨b,c,λo v e=>s.hw.cell (av o v e)⟩⟩
theorem ajh{ty el:gv}{i:CU}(g:P.underlying t=some (.slice el))(f:P.info? el=some i)(j:i.zero=some z)(n:i.size=size)(o:i.bytes=bytes)(p:z.cells.size=size)(m:0<size){k:Nat}(h:w.ownsRow 0 el size v k xs)(d:Bb w size B q aI)(h1:∀u∈aI,u.oneCell'=true)(e:k+q<=eQ)(l:(k+q)*bytes<=140737488355328):
 ∃a bz,(xF #[t,t] ty #[v,.slice B q c]).run P w= .ok a bz/\bz.ownsRow 0 el size a (k+q) (xs++aI)/\w.grownBy bz v.ownBlock/\
  (a= .slice none 0 0↔v= .slice none 0 0/\q=0)/\(a.ownBlock=v.ownBlock\/a.ownBlock=some w.heap.size):=by
 obtain⟨al,d⟩:=d
 rcases d with⟨rfl,rfl⟩|⟨b,rfl,av⟩
 have:aI=[]:=y7 I
 subst this
 exact⟨v,w,aEJ g f h c,aL,aIJ w _,bc,.inl rfl⟩
 exact run_append_own_at (P:=P) w 0 t ty el i z size bytes g f j n o p m v k xs h b q c aI al av h1 e l (cU _)
theorem ai'{k:Nat}(a:w.ownsRow 0 el size v k xs):∃A cap,v= .slice A k cap:=by
 rcases a.2 with⟨rfl,rfl⟩|⟨g,cap,b,rfl,_⟩;simp;simp
theorem QJ{k:Nat}(a:w.ownsRow 0 el size (.slice A k cap) k xs):(Value.slice A k cap= .slice none 0 0)↔A=none:=by
 constructor
 grind
 intro e;subst e;rcases a.2 with⟨q,_⟩|⟨g,c,b,q,_⟩;omega
 grind
theorem Xw{k:Nat}(a:w.ownsRow 0 el size (.slice A k cap) k xs):k<=cap:=by
 rcases a.2 with⟨q,b⟩|⟨g,c,d,q,_,_,h,_⟩;omega
 grind
theorem aC6{k:Nat}{g:aE}(d:w.ownsRow 0 el size (.slice (some g) k cap) k xs):∃a,g=⟨g.block,0,none⟩/\w.heap[g.block]?=some (.cells a el (0,0))/\k<=cap/\cap<=eQ/\a.size=cap*size/\xs.length=k*size/\a.toList.take (k*size)=xs:=by
 rcases d.2 with⟨c,_⟩|⟨g1,c1,a,c,_,f,h,j,l,e⟩
 grind
 injection c with b _ i;injection b with b;subst b;subst i;exact⟨a,rfl,f,h,j,l,d.1,e⟩
theorem XY(am:0<q)(a:Bb w size B q aI):aI.length=q*size/\∃b,B=some b/\∀o v,aI[o]?=some v->w.cell? (b.add o)=some v:=by
 obtain⟨al,c⟩:=a
 grind
theorem dm.Sz{ty el:gv}{i:CU}(C:P.underlying t=some (.slice el))(A:P.info? el=some i)(s:i.zero=some z)(W:i.size=size)(M:i.bytes=bytes)(X:z.cells.size=size)(T:0<size){j g:aE}{k:Nat}{a:List aA}(m:dm am bh β L h w)(O:ei L)(U:a.length=k*size)(p:∀o u,a[o]?=some u->w.cell? (g.add o)=some u)(al:aI.length=q*size)(J:∀o v,aI[o]?=some v->w.cell? (j.add o)=some v)(av:cap<k+q)(hm:k+q<=eQ)(B:(k+q)*bytes<=140737488355328):∃f d cH bz,(xF #[t,t] ty #[.slice (some g) k cap,.slice (some j) q c]).run P w= .ok (.slice (some f) (k+q) d) bz/\k+q<=d/\dm am bh cH (L++[.row el size (some f) (k+q) d (a++aI)]) h bz/\ei (L++[.row el size (some f) (k+q) d (a++aI)])/\(∀o,fP L o->fP (L++[.row el size (some f) (k+q) d (a++aI)]) o)/\(∀o,fP L o->cH o=β o):=by
 obtain⟨N,bz,E,K,Q⟩:=run_append_arg_grows (P:=P) (w:=w) t ty el i z size bytes C A s W M X T g k cap a U p j q c aI al J I hm B;have b:bz.ownsRow 0 el size N (k+q) (a++aI):=⟨K.1,by
  rcases K.2 with x|⟨g,c,be,Y,Z,di⟩;omega
  grind⟩
 have F:=run_append_grow (P:=P) w t ty el i z C A s g k cap a aL p j q c aI aL J I (by grind [eQ]) (by rw[M];exact growslice_fits I B);rw[E]at F;injection F with R _;subst R;obtain⟨m1,H⟩:=m.Wv O el size;have r:cI (L++[LE.row el size none 0 0 []]) L.length=some (.row el size none 0 0 []):=by rw[yH];simp
 obtain⟨cH,S,D,n,_⟩:=m1.grow H r Q b (.inr rfl);have V:∀y:LE,hy (L++[LE.row el size none 0 0 []]) L.length y=L++[y]:=λy=>by
  rw[Jk,vm _ _ (dM _)];simp
 have G:=H.wd (oo r) n (λ_ _ e=>by cases e);rw[V]at D n G;exact⟨_,_,cH,bz,E,Xw b,D,G,λo l=>n o (wa _ l),λo l=>S o (wa _ l)⟩
theorem abT{ty el:gv}{i:CU}(Q:P.underlying t=some (.slice el))(J:P.info? el=some i)(V:i.zero=some z)(H:i.size=size)(vH:i.bytes=bytes)(vS:z.cells.size=size)(U:0<size){k:Nat}{S:List aA->Prop}{K:aN->List LE->Prop}(m:dm am bh β L h w)(s:ei L)(dy:∀aI,S aI->Bb w size B q aI)(hp:y3 el size bytes A k cap q S L K):∃bo d gO cH bB bz,(xF #[t,t] ty #[.slice A k cap,.slice B q c]).run P w= .ok (.slice bo gO d) bz/\K (.v (.slice bo gO d)) bB/\dm am bh cH bB h bz/\ei bB/\(∀o,fP L o->fP bB o)/\(∀o,fP L o->cH o=β o):=by
 cases hp with
 |c0 o xs aI a E h1 hm M X=>
  have n:=(m.cJ.cJ o _ a).1;obtain⟨Co,bz,j,f,D,y,Y⟩:=ajh (ty:=ty) (c:=c) Q J V H vH vS U n (dy aI E) h1 hm M;obtain⟨bo,d,rfl⟩:=ai' f;obtain⟨cH,F,g,l,_⟩:=m.grow s a D f Y;refine⟨bo,d,_,cH,_,bz,j,X bo d ?_,g,s.wd (oo a) l (λ_ _ e=>by cases e),l,F⟩;rw[QJ f,QJ n]at y;exact⟨y,Xw f⟩
 |fresh aI aK aF tw E h1 hm M X=>
  subst aK;subst aF;subst tw;obtain⟨m1,ij⟩:=m.Wv s el size;have a:cI (L++[LE.row el size none 0 0 []]) L.length=some (.row el size none 0 0 []):=by rw[yH];simp
  have n:=(m1.cJ.cJ _ _ a).1;obtain⟨Co,bz,j,f,D,y,Y⟩:=ajh (ty:=ty) (c:=c) Q J V H vH vS U n (dy aI E) h1 I aL;obtain⟨bo,d,rfl⟩:=ai' f;obtain⟨cH,F,g,l,_⟩:=m1.grow ij a D f Y;have pg:hy (L++[LE.row el size none 0 0 []]) L.length (.row el size bo (0+q) d ([]++aI))=L++[.row el size bo q d aI]:=by
   rw[Jk,vm _ _ (dM _)];simp
  rw[pg]at g l;rw[QJ f,QJ n]at y;simp only[true_and]at y;have dG:0+q=q:=Nat.zero_add q;rw[dG]at j;have T:=ij.wd (oo a) (by rw[pg];omega) (λ_ _ e=>by cases e);rw[pg]at T;exact⟨bo,d,q,cH,_,bz,j,X bo d ⟨y,by have:=Xw f;omega⟩,g,T,λo a=>l o (wa _ a),λo a=>F o (wa _ a)⟩
 |off o b r N G xs aI aK a R hC E h1 am hm M cz bS=>
  subst aK;have n:=(m.cJ.cJ o _ a).1;obtain⟨al,dN,rfl,qh⟩:=XY am (dy aI E);obtain⟨x,_,Z,aI',W,gq,avw,DH⟩:=aC6 n;simp only at Z;by_cases O:k+q<=cap;have Do:=aEQ (P:=P) w i.size q dN q c aI aL qh;have C:N+q<=G:=by
   have:(N+q)*size<=G*size:=by
    rw[CI,R,hC O,Nat.add_assoc,<-CI];exact Nat.add_le_add_left (vn _ O) _
   exact Nat.le_of_mul_le_mul_right this U
  have UC:r+k*size+0+aI.length<=x.size:=by
   rw[<-R,al,gq,A6,<-CI];exact vn _ C
  have lm:=run_storeCells_at P b (r+k*size) el aI 0 x w Z UC h1;rw[A6,<-R,DH]at lm;have j:(xF #[t,t] ty #[.slice (some ⟨b,r,none⟩) k cap,.slice (some dN) q c]).run P w= .ok (.slice (some ⟨b,r,none⟩) (k+q) cap) (w.setRow b (xs++aI++x.toList.drop (N*size+aI.length)).toArray):=by
   rw[H]at Do;simp[xF,hg Q,sizeOf,Cn,J,H,RC,O,Do,alz,<-R,lm]
  have ev:(xs++aI).length=(N+q)*size:=aL;have f:(w.setRow b (xs++aI++x.toList.drop (N*size+aI.length)).toArray).ownsRow 0 el size (.slice (some ⟨b,0,none⟩) (N+q) G) (N+q) (xs++aI):=by
   refine⟨ev,.inr ⟨b,G,_,rfl,cU _,setRow_heap w b x _ el _ Z,C,W,?_,?_⟩⟩
   grind
   grind
  have D:w.grownBy (w.setRow b (xs++aI++x.toList.drop (N*size+aI.length)).toArray) (Ht (.slice (some ⟨b,0,none⟩) N G)):=⟨rfl,rfl,rfl,bc,λo _ a=>setRow_other w b o _ (λe=>a (by rw[e];rfl))⟩;obtain⟨cH,F,g,l,_⟩:=m.grow s a D f (.inl rfl);exact⟨_,_,_,cH,_,_,j,cz O,g,s.wd (oo a) l (λ_ _ e=>by cases e),l,F⟩;have oi:(xs.drop r).length=k*size:=by simp_all
  have Dz:∀o u,(xs.drop r)[o]?=some u->w.cell? ((oA b r none).add o)=some u:=λp u hu=>by
   rw[List.getElem?_drop]at hu;have:=XR m.cJ a hu;rw[add_lit]at this⊢
   grind
  obtain⟨bq,d,cH,bz,j,tw,g,T,hn,fu⟩:=m.Sz (ty:=ty) (c:=c) (cap:=cap) Q J V H vH vS U s oi Dz al qh I hm M;exact⟨_,_,_,cH,_,bz,j,bS I _ _ tw,g,T,hn,fu⟩
theorem aqV{ty el:gv}{i:CU}(y:P.underlying t=some (.slice el))(s:P.info? el=some i)(G:i.zero=some z)(n:i.size=size)(Z:i.bytes=bytes)(vS:z.cells.size=size)(V:0<size){k:Nat}{S:List aA->Prop}{K:aN->List LE->J->Prop}(m:dm am bh β L h w)(r:ei L)(dy:∀aI,S aI->Bb w size B q aI)(hp:Ey el size bytes A k cap q S L h K):∃bo d g cH bB aa bz,(xF #[t,t] ty #[.slice A k cap,.slice B q c]).run P w= .ok (.slice bo g d) bz/\K (.v (.slice bo g d)) bB aa/\dm am bh cH bB aa bz/\ei bB/\(∀o,fP L o->fP bB o)/\(∀o,fP L o->cH o=β o):=by
 have lift:y3 el size bytes A k cap q S L (λx L=>K x L h)->∃bo d g cH bB aa bz,(xF #[t,t] ty #[.slice A k cap,.slice B q c]).run P w= .ok (.slice bo g d) bz/\K (.v (.slice bo g d)) bB aa/\dm am bh cH bB aa bz/\ei bB/\(∀o,fP L o->fP bB o)/\(∀o,fP L o->cH o=β o):=λaB=>by
  obtain⟨bo,d,g,cH,bB,bz,D,C,jj⟩:=abT (ty:=ty) (c:=c) y s G n Z vS V m r dy aB
  grind
 cases hp with
 |c0 o xs aI H a h1 hm f Q=>exact lift (.c0 o xs aI H a h1 hm f Q)
 |fresh aI aK aF p a h1 hm f Q=>exact lift (.fresh aI aK aF p a h1 hm f Q)
 |off o b oq N kb xs aI aK H dX hC a h1 am hm f R j=>exact lift (.off o b oq N kb xs aI aK H dX hC a h1 am hm f R j)
 |mem b off be h4 aI Y aK f a h1 am W gV aU hm X R j=>
  subst aK;obtain⟨al,T,rfl,E⟩:=XY am (dy aI a);have ng:=m.cJ.hw _ _ f;by_cases M:k+q<=cap;have aU:=aU M;have Do:=aEQ (P:=P) w i.size q T q c aI aL E;have lm:=XG (P:=P) (b:=b) (ty:=el) aI w be h4 (off+k*size) 0 I h1 I;have b':aI≠[]:=λe=>by
   rw[e]at al;have:q*size≠0:=Nat.mul_ne_zero I I
   grind
  rw[aC b']at lm;have l:(xF #[t,t] ty #[.slice (some ⟨b,off,none⟩) k cap,.slice (some T) q c]).run P w= .ok (.slice (some ⟨b,off,none⟩) (k+q) cap) (wr w b el h4):=by
   rw[n]at Do;simp[xF,hg y,sizeOf,Cn,s,n,RC,M,Do,alz,lm]
  exact⟨_,_,_,β,L,_,_,l,R M,m.alq I,r,λ_=>id,λ_ _=>rfl⟩;have F:∀o u,Y[o]?=some u->w.cell? ((oA b off none).add o)=some u:=λo u hu=>by
   rw[add_lit];simp_all[NF,ng]
  obtain⟨bq,d,cH,bz,l,p,O,U,D,C⟩:=m.Sz (ty:=ty) (c:=c) (cap:=cap) y s G n Z vS V r W F al E I hm X;exact⟨_,_,_,cH,_,h,bz,l,j I _ _ p,O,U,D,C⟩
 |rd b off aI Y aK a h1 am W gV av hm X j=>
  subst aK;obtain⟨al,T,rfl,E⟩:=XY am (dy aI a);have F:∀o u,Y[o]?=some u->w.cell? ((oA b off none).add o)=some u:=λo u hu=>m.cJ.hw.cell (gV o u hu);obtain⟨bq,d,cH,bz,l,p,O,U,D,C⟩:=m.Sz (ty:=ty) (c:=c) (cap:=cap) y s G n Z vS V r W F al E I hm X;exact⟨_,_,_,cH,_,h,bz,l,j _ _ p,O,U,D,C⟩
end
end Go.Sx
