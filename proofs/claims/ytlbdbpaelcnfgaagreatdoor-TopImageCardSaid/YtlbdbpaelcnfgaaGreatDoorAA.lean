/- A part of the proof that the statement holds. Conditions: none. -/
import Derived.WalkKit
import Derived.Below
import Derived.Deep.Quiet
import Derived.StillTail
import Derived.Maps.AppendAt
import Derived.Laws.OwnMore
import Derived.Maps.RangeRun
import Derived.ArgAppend
import Derived.Laws.CopyRow
open Array renaming ext'->r6,getD_eq_getD_getElem?->zF,getElem?_eq_some_iff->tb,size_push->NF,toList_map->wO
open Bool renaming and_eq_true->fY,false_eq_true->uh
open Go renaming Addr->ar,BinOp->r8,Exit->fU,FuncId->jh,IntKind->yl,MapEntry->zV,Oper->b8,Operand->e3,Program->dW,TypeId->fc,TypeInfo->BY,Value->ao,World->bb,asIntOf->B1,eqGuard_at_int->Hi,execOp->cY,loadCellsFrom->abR,loadVar->RV,madeCells->rO,maxLen->c',resolve->zx,run_firstCells_some->aw8,run_underlying->gj,storeCells->ae2,storeVar->aCb,typeInfo->Bq,undef->eU
open Go.Act renaming put->Ug
open Go.Addr renaming add->Gn,add_lit->agd,mk->ou
open Go.Builtin renaming append_->ui,firstCells->agn,lenOf->NJ,len_->Un
open Go.Deferred renaming ofValue->Bz
open Go.Instr renaming buildSlice->agT,fieldAt->agV,fill->UI,indexAt->BG,loadAt->zQ,storeAt->agY,sureAddr->qq
open Go.Next renaming value->ahR
open Go.Op renaming intArith->D1
open Go.Oper renaming upon_enter->GU,wp->zX
open Go.Region renaming before->eB,binds->qy
open Go.Result renaming andThen_ok->hd,ok->ah4
open Go.Sem renaming run_bind->aDF,run_pure->jR
open Go.Value renaming agg->Ke,ownBlock->Ab
open Go.World renaming cell?->OK
open Go.World.grownBy renaming refl->aip
open List renaming eq_nil_of_length_eq_zero->ra,flatten_cons->qr,getElem?_append->JY,getElem?_eq_none->qs,length_cons->gI,map->GJ,map_append->fm,map_congr_left->pK,map_cons->eO,map_map->lo,mem_cons_self->iU,mem_map->dn,mem_singleton->fx,range->aDB,replicate->bG,replicate_succ->GO,set_append_right->wU
open Nat renaming add_mul->ti,add_zero->wX,beq->gN,ble->nT,blt->GR,eq_of_beq_eq_true->mJ,le_of_ble_eq_true->rh,le_refl->dd,le_trans->hT,lt_of_lt_of_le->BN,mul_le_mul_right->pN,zero_le->cO
open Option renaming isSome_iff_exists->Ou
namespace Go.Sx
set_option maxRecDepth 100000
set_option maxHeartbeats 0
abbrev pR:=@cond_false
abbrev lv:=@cond_true
abbrev ho:=@congrArg
abbrev gU:=@decide_eq_false
abbrev fo:=@decide_eq_true
abbrev sh:=@decide_eq_true_eq
abbrev k':=@if_false
abbrev aE:=@if_neg
abbrev aX:=@if_pos
abbrev la:=@if_true
abbrev tZ:=@of_decide_eq_false
abbrev qb:=@of_decide_eq_true
set_option linter.all false
variable {z:Int}{b i n o:Nat}{β:Nat->Nat}{α:Type}{v:ao}{a:ar}{J:b8}{w:bb}{x y:e3}{el hy t:fc}{op:r8}
inductive dB where
 |t (n:Nat)
 |c (v:ao)
 |rx (g:Nat)
 |fn (f:Nat)
 deriving Inhabited
inductive kk where
 |b2 (x:dB)
 |set (x:dB)
 |pick (c a b:dB)
 |alloc (ty:Nat) (zero:List ao)
 |box (ty:Nat) (x:dB)
 |build (zero:List ao) (parts:List (Nat×Nat×dB))
 |kq (ty:Nat) (len size:Nat) (zero:List ao) (parts:List (Nat×dB))
 |load (agg:Bool) (n:Nat) (x:dB)
 |store (n:Nat) (x y:dB)
 |h0 (x:dB)
 |arith (op:r8) (x y:dB)
 |cmp (op:r8) (x y:dB)
 |eqv (neg:Bool) (Pp:Nat) (x y:dB)
 |Ew (op:r8) (x y:dB)
 |tm (op:r8) (ty:Nat) (x y:dB)
 |unop (op:UnOp) (x:dB)
 |conv(src dst:Nat) (x:dB)
 |dq (off:Nat) (x:dB)
 |field (agg:Bool) (off n:Nat) (x:dB)
 |dX (size:Nat) (x i:dB)
 |LO (len size:Nat) (x i:dB)
 |len (ty:Nat) (x:dB)
 |Fu (x:dB)
 |extract (x:dB) (i:Nat)
 |call (f:Nat) (args:List dB)
 |yE (x:dB) (args:List dB)
 |yD (f:Nat) (args:List dB)
 |O6 (x:dB) (args:List dB)
 |Wb (f:Nat) (args:List dB)
 |fs (ty bs Xd W2:Nat) (zero:List ao) (x y:dB)
 |append (ty bs Xd W2:Nat) (zero:List ao) (x y:dB)
 |d7 (ty bs Xd W2:Nat) (zero:List ao) (l c:dB)
 |slice (size:Nat) (x:dB) (bX ag:Option dB)
 |IL (jq:Bool) (x y:dB)
 |neg (x:dB)
 |Mi
 |lookup (bQ:Nat) (zero:ao) (x k:dB) (ok:Bool)
 |Mf (bQ:Nat) (x k v:dB)
 |Mh (f:Nat) (iz:List dB)
 |range (x:dB)
 |next (x:dB)
 |entry (x:dB)
 |Ph (k:yl) (x:dB)
 |M' (x:dB)
 |invoke (name:String) (x:dB) (args:List dB)
 |raw (J:Op)
 |bad
 deriving Inhabited
structure cC where
 d:Option Nat
 g:Option (Nat×Bool)
 k:kk
 deriving Inhabited
structure sb where
 J:cC
 after:List Nat
 m:Bool
 x:Bool:=false
 y:Bool:=false
 z:Bool:=false
 q:Option Nat:=none
 deriving Inhabited
inductive hn where
 |nil
 |top
 |bot
 |v (J:cC) (m z:Bool) (r:hn)
 |w (J:cC) (y:Bool) (r:hn)
 |two (J:cC) (y:Bool) (r s:hn)
 |d (q:Nat) (J:cC) (y:Bool) (r:hn)
 |afv (q:Nat) (J:cC) (y:Bool) (r s:hn)
 deriving Inhabited
inductive IR where
 |skip
 |ch (ops:List cC)
 |xP (t:hn)
 |seq (a b:IR)
 |cond (c:dB) (x y:IR)
 |block (id:Nat) (b:IR)
 |loop (b:IR)
 |exit (id:Nat)
 |scope (b:IR)
 |label
 |ret
 |ad4 (f:dB) (be:List Nat) (a b:IR)
 |bad
 deriving Inhabited
def bK:e3->dB
 |.tmp t=>.t t
 |.const v=>.c v
 |.global g=>.rx g
 |.func f=>.fn f
section
variable (P:dW)
def oq(t:Nat):Bool:=match P.underlying t with
 |some (.struct _)|some (.array _ _)=>true
 |_=>false
def q2(t:Nat):Bool:=match P.underlying t with
 |some (.int .i64)=>true
 |_=>false
def Nh(t:Nat):Bool:=match P.underlying t with
 |some (.int .u64)=>true
 |_=>false
def ir(t:Nat):Nat:=match P.info? t with|some i=>i.size|none=>0
def iP(t:Nat):Bool:=(P.underlying t).isSome&&(P.info? t).isSome
def Aq(t:Nat):Option (Nat×Nat×List ao):=match P.info? t with
 |some i=>(match i.zero with
  |some z=>if gN z.cells.size i.size&&GR 0 i.size then some (i.size,i.bytes,z.cells.toList)else none
  |none=>none)
 |none=>none
def ze:List Field->Nat->Bool
 |[],_=>true
 |f::r,i=>q2 P f.type&&gN f.offset i&&iP P f.type&& !oq P f.type&&decide (f.name≠ "_")&&ze r (i+1)
def C5(e:Nat):Bool:=q2 P e&&iP P e&& !oq P e&&gN (ir P e) 1
def KH(t:Nat):Option Nat:=match P.underlying t with
 |some .bool=>some 0
 |some (.pointer _)=>some 1
 |some (.slice _)=>some 2
 |some (.func _ _ _)=>some 3
 |some (.struct a')=>if ze P a'.toList 0&& !P.stoodInHeld t&& !P.eqGuardType P.depth t then some (5+a'.size)else none
 |some (.array n e)=>if C5 P e&& !P.eqGuardType P.depth t then some (5+n)else none
 |_=>none
def zh(t:Nat):Option Nat:=bif q2 P t then some 0 else match P.underlying t with
 |some (.struct a')=>if ze P a'.toList 0&& !P.stoodInHeld t&& !P.eqGuardType P.depth t then some (5+a'.size)else none
 |some (.array n e)=>if C5 P e&& !P.eqGuardType P.depth t then some (5+n)else none
 |_=>none
def JK(t:Nat):Option ao:=match P.info? t with
 |some i=>i.zero
 |none=>none
def Nf(t:Nat):Option yl:=match P.underlying t with
 |some (.int k)=>some k
 |_=>none
def Jw(t:Nat):Bool:=(Nf P t).isSome
def Av(t i:Nat):Option Field:=match P.underlying t with
 |some (.struct a')=>a'[i]?
 |_=>none
def Dh(t:Nat):List (Nat×e3)->Option (List (Nat×Nat×dB))
 |[]=>some []
 |(i,x)::r=>match Av P t i with
  |some f=>(match iP P f.type,Dh t r with
   |true,some l=>some ((f.offset,ir P f.type,bK x)::l)
   |_,_=>none)
  |none=>none
def TC(t:Nat):Bool:=match P.underlying t with
 |some (.struct a')=>a'.toList.all λf=>iP P f.type
 |_=>false
def RY(t:Nat)(be:List (Nat×e3)):Option (List (Nat×Nat×dB)):=match P.underlying t with
 |some (.array _ e)=>if iP P e then some (be.map λp=>(p.1*ir P e,ir P e,bK p.2))else none
 |_=>none
def bI(J:Op):kk:=
 match J with
 |.move x=>.b2 (bK x)
 |.assign x=>.set (bK x)
 |.pick c a b=>.pick (bK c) (bK a) (bK b)
 |.alloc t=>(match P.info? t with
  |some i=>(match i.zero with|some z=>.alloc t z.cells.toList|none=>.raw J)
  |none=>.raw J)
 |.box t x=>.box t (bK x)
 |.build t be=>(match P.info? t with
  |some i=>(match i.zero,(if TC P t then Dh P t be.toList else RY P t be.toList)with|some z,some l=>.build z.cells.toList l|_,_=>.raw J)
  |none=>.raw J)
 |.buildSlice t n be=>(match P.underlying t with
  |some (.slice e)=>(match Aq P e with|some (s,_,z)=>.kq e n s z (be.toList.map λp=>(p.1,bK p.2))|none=>.raw J)
  |_=>.raw J)
 |.load t x=>if iP P t then .load (oq P t) (ir P t) (bK x)else .raw J
 |.store t x y=>if iP P t then .store (ir P t) (bK x) (bK y)else .raw J
 |.nilCheck x=>.h0 (bK x)
 |.binOp op t x y _=>(match op with
  |.add|.sub|.mul=>if q2 P t then .arith op (bK x) (bK y)else .tm op t (bK x) (bK y)
  |.quo|.rem=>if q2 P t then .Ew op (bK x) (bK y)else .tm op t (bK x) (bK y)
  |.eql=>if q2 P t then .cmp op (bK x) (bK y)else if Jw P t then .tm op t (bK x) (bK y)else(match KH P t with|some k=>.eqv false k (bK x) (bK y)|none=>.raw J)
  |.neq=>if q2 P t then .cmp op (bK x) (bK y)else if Jw P t then .tm op t (bK x) (bK y)else(match KH P t with|some k=>.eqv true k (bK x) (bK y)|none=>.raw J)
  |.lss|.leq|.gtr|.geq=>if q2 P t then .cmp op (bK x) (bK y)else .tm op t (bK x) (bK y)
  |.shr=>.tm .shr 0 (bK x) (bK y)
  |_=>.tm op t (bK x) (bK y))
 |.unOp op t x=>(match op with
  |.neg=>if q2 P t then .neg (bK x)else .raw J
  |.not=>.unop .not (bK x)
  |_=>.raw J)
 |.convert s d x=>if q2 P s&&Nh P d then .conv 0 0 (bK x)else if Nh P s&&q2 P d then .conv 1 0 (bK x)else if Jw P s then(match Nf P d with|some k=>.Ph k (bK x)|none=>.raw J)else .raw J
 |.fieldAddr t x i=>(match Av P t i with
  |some f=>if iP P f.type&& !gN (ir P f.type) 0 then .dq f.offset (bK x)else .raw J
  |none=>.raw J)
 |.field t x i=>(match Av P t i with
  |some f=>if iP P f.type then .field (oq P f.type) f.offset (ir P f.type) (bK x)else .raw J
  |none=>.raw J)
 |.indexAddr t x i=>(match P.underlying t with
  |some (.slice e)=>if iP P e then .dX (ir P e) (bK x) (bK i)else .raw J
  |some (.array n e)=>if iP P e then .LO n (ir P e) (bK x) (bK i)else .raw J
  |_=>.raw J)
 |.lookup t x k ok=>(match P.underlying t with
  |some (.map oR e)=>(match zh P oR,JK P e with
   |some bQ,some z=>.lookup bQ z (bK x) (bK k) ok
   |_,_=>.raw J)
  |_=>.raw J)
 |.mapUpdate t x k v=>(match P.underlying t with
  |some (.map oR _)=>(match zh P oR with
   |some bQ=>.Mf bQ (bK x) (bK k) (bK v)
   |none=>.raw J)
  |_=>.raw J)
 |.makeSlice t l c=>(match P.underlying t with
  |some (.slice e)=>(match Aq P e with|some (s,b,z)=>.d7 t e s b z (bK l) (bK c)|none=>.raw J)
  |_=>.raw J)
 |.slice t x bX ag jq=>(match P.underlying t,jq with
  |some (.slice e),none=>if iP P e then .slice (ir P e) (bK x) (bX.map bK) (ag.map bK)else .raw J
  |_,_=>.raw J)
 |.extract x i=>.extract (bK x) i
 |.makeFunc fn first iz=>(match fn with
  |.func f=>if first.size=0 then .Mh f (iz.toList.map bK)else .raw J
  |_=>.raw J)
 |.makeMap _ r=>(match r with|none=>.Mi|some _=>.raw J)
 |.range t x=>(match P.underlying t with
  |some (.map _ _)=>.range (bK x)
  |_=>.raw J)
 |.next x s=>if s then .raw J else .next (bK x)
 |.entry x=>.entry (bK x)
 |.call c=>(match c.callee with
  |.builtin .append=>(match c.args.toList,c.argTypes.toList with
   |[x,y],[t,hy]=>(match P.underlying t with
    |some (.slice e)=>(match Aq P e with|some (s,b,z)=>if t=hy then .append t e s b z (bK x) (bK y)else .raw J|none=>.raw J)
    |_=>.raw J)
   |_,_=>.raw J)
  |.builtin .len=>(match c.args.toList,c.argTypes.toList with
   |[x],[t]=>(match P.underlying t with
    |some (.slice _)=>.len t (bK x)
    |some (.map _ _)=>.Fu (bK x)
    |some .string=>.M' (bK x)
    |_=>.raw J)
   |_,_=>.raw J)
  |.builtin .min=>(match c.args.toList with
   |[x,y]=>.IL false (bK x) (bK y)
   |_=>.raw J)
  |.builtin .max=>(match c.args.toList with
   |[x,y]=>.IL true (bK x) (bK y)
   |_=>.raw J)
  |.builtin _=>.raw J
  |.value (.func f)=>.call f (c.args.toList.map bK)
  |.value x=>.yE (bK x) (c.args.toList.map bK)
  |.invoke x m=>.invoke m (bK x) (c.args.toList.map bK))
 |_=>.raw J
def hD:kk->Bool
 |.b2 _|.pick .. |.load .. |.h0 _|.arith .. |.cmp .. |.unop .. |.dq .. |.dX .. |.LO .. |.len .. |.extract ..
 |.build .. |.eqv .. |.neg _|.IL .. |.Ew .. |.slice .. |.field .. |.lookup .. |.Fu _|.conv .. |.tm .. |.Ph .. |.M' _=>true
 |_=>false
def qS:kk->Bool
 |.load .. |.lookup .. |.Fu _=>true
 |_=>false
def C7:kk->Bool
 |.alloc .. |.box .. |.kq .. |.d7 .. |.set _=>true
 |_=>false
def wB:kk->Bool
 |.append .. =>true
 |_=>false
def Im:kk->Bool
 |.call .. |.yE .. =>true
 |_=>false
def pP:kk->kk
 |.append t e s b z x y=>.fs t e s b z x y
 |.call f aLT=>.yD f aLT
 |.yE x aLT=>.O6 x aLT
 |k=>k
def uM(J:cC):cC:={d:=J.d,g:=J.g,k:=pP J.k}
def Cm:kk->kk
 |.call f aLT=>.Wb f aLT
 |k=>pP k
def Cn(J:cC):cC:={d:=J.d,g:=J.g,k:=Cm J.k}
def tT(ops:Array b8):Option (Nat×Bool)->Option (Option (Nat×Bool))
 |none=>some none
 |some (o,b)=>match ops[o]?with
  |some J=>(match J.dst with|some d=>some (some (d,b))|none=>none)
  |none=>none
def e5(ops:Array b8)(J:b8):cC:=
 match tT ops J.guard with
 |some g=>{d:=J.dst,g:=g,k:=bI P J.op}
 |none=>{d:=J.dst,g:=none,k:=.bad}
def sI(ops:Array b8)(J:b8):Bool:=match J.op with
 |.store _ (.tmp t) _=>ops.toList.any λp=>(match p.op with|.alloc _|.box _ _=>p.dst==some t|_=>false)
 |_=>false
def Wt(ops:Array b8)(b:Array Nat)(i x:Nat):Bool:=
 match ops[i]?,ops[x]?with
 |some ca,some ic=>qS (bI P ca.op)&& !(hD (bI P ic.op)||C7 (bI P ic.op)||wB (bI P ic.op)||Im (bI P ic.op)||sI ops ic||(b.getD x 0).testBit i||(b.getD i 0).testBit x)
 |_,_=>false
def pV(ops:Array b8)(b:Array Nat)(i:Nat):Bool:=(aDB ops.size).any λx=>i !=x&&Wt P ops b i x
def C8(ops:Array b8)(b:Array Nat)(i:Nat)(J:b8):Bool:=hD (bI P J.op)&& !pV P ops b i
def ME(ops:Array b8)(b:Array Nat)(i x:Nat):Bool:=
 match ops[i]?,ops[x]?with
 |some ca,some ic=>
  let p7:=(b.getD x 0).testBit i;let af8:=(b.getD i 0).testBit x;let azC:=C8 P ops b i ca;let afJ:=C8 P ops b x ic
  (match ic.dst with
   |some d=>(!(ca.looksAt ops).contains d||af8||(!afJ&&p7))&&(ca.dst !=some d||(!afJ&&p7)||(!azC&&af8))
   |none=>true)
 |_,_=>true
def Mu(ops:Array b8):Bool:=
 let b:=eB ops
 Region.noSelect ops&&(aDB ops.size).all λi=>
  (match ops[i]?with
   |some J=>(J.after.toList.all λe=>!qy .any e||decide (e.on<i))&&(!hD (bI P J.op)||(match J.dst with|some d=>!(J.looksAt ops).contains d|none=>false))
   |none=>true)&&
  (aDB ops.size).all λx=>i==x||ME P ops b i x
def yM(bM:List Nat)(J:b8):Bool:=match bI P J.op with
 |.call f _=>bM.contains f
 |_=>false
def oU(bM:List Nat)(ops:Array b8)(b:Array Nat)(i:Nat):Bool:=(aDB ops.size).any λx=>(match ops[x]?with|some ic=>wB (bI P ic.op)||yM P bM ic||sI ops ic|none=>false)&& !(b.getD x 0).testBit i&& !(b.getD i 0).testBit x
def pH(bM:List Nat)(ops:Array b8)(b:Array Nat)(i:Nat):Bool:=(aDB ops.size).any λx=>(match ops[x]?with|some ic=>yM P bM ic|none=>false)&& !(b.getD x 0).testBit i&& !(b.getD i 0).testBit x
def alone(bM:List Nat)(ops:Array b8)(b:Array Nat)(i:Nat)(J:b8):Bool:=
 (match bI P J.op with
  |.call f _=>bM.contains f
  |.yE (.t n) _=>bM.contains (n+1000)
  |_=>false)&&
 (aDB ops.size).all λo=>i==o||(match ops[o]?with|some gw=>!qS (bI P gw.op)||(b.getD o 0).testBit i||(b.getD i 0).testBit o|none=>true)
def jF(bM:List Nat)(ops:Array b8)(b:Array Nat)(i:Nat)(J:b8):cC:=match alone P bM ops b i J with
 |true=>e5 P ops J
 |false=>match yM P bM J with
  |true=>Cn (e5 P ops J)
  |false=>uM (e5 P ops J)
def ID:List b8->Nat
 |[]=>1000000
 |J::l=>match J.dst with|some d=>Nat.min d (ID l)|none=>ID l
def uO(bM:List Nat)(ops:Array b8)(J:b8):Option Nat:=match bI P J.op with
 |.call f _=>bif bM.contains (f+2000)then some (ID ops.toList)else none
 |_=>none
def Di(bM:List Nat)(ops:Array b8)(b:Array Nat):List b8->Nat->List sb
 |[],_=>[]
 |J::l,i=>{J:=jF P bM ops b i J,after:=(J.after.toList.filter (qy .any)).map (·.on),m:=oU P bM ops b i,x:=pV P ops b i,y:=sI ops J,z:=pH P bM ops b i,q:=uO P bM ops J}::Di bM ops b l (i+1)
abbrev nX:=List (Nat×sb)
def Dj(l:List Nat)(i:Nat):Bool:=match l with
 |[]=>false
 |x::r=>gN x i||Dj r i
def t8(done:List Nat):List Nat->Bool
 |[]=>true
 |o::r=>Dj done o&&t8 done r
def xR(done:List Nat):nX->Option (Nat×sb×nX)
 |[]=>none
 |(i,J)::r=>bif hD J.J.k&& !J.x&&t8 done J.after then some (i,J,r)else match xR done r with
  |some (o,p,cT)=>some (o,p,(i,J)::cT)
  |none=>none
def Dp(done:List Nat):nX->nX->List (Nat×sb×nX)
 |[],_=>[]
 |(i,J)::r,pre=>bif t8 done J.after then(i,J,pre++r)::Dp done r (pre++[(i,J)])else Dp done r (pre++[(i,J)])
def Dk{α:Type}:List α->Nat->List (Nat×α)
 |[],_=>[]
 |x::l,k=>(k,x)::Dk l (k+1)
def Fk:List (sb×hn)->hn
 |[]=>.top
 |[(J,t)]=>(match J.q with|none=>.w J.J J.y t|some q=>.d q J.J J.y t)
 |(J,t)::x::l=>(match J.q with|none=>.two J.J J.y t (Fk (x::l))|some q=>.afv q J.J J.y t (Fk (x::l)))
def Be:Nat->List Nat->nX->hn
 |_,_,[]=>.nil
 |0,_,_::_=>.bot
 |f+1,done,x::r=>match xR done (x::r)with
  |some (i,J,cT)=>.v J.J J.m J.z (Be f (i::done) cT)
  |none=>Fk ((Dp done (x::r) []).map λy=>(y.2.1,Be f (y.1::done) y.2.2))
def SR(ops:List sb):hn:=Be ops.length [] (Dk ops 0)
def lower(bM:List Nat):Code->IR
 |.skip=>.skip
 |.region _ ops false=>.ch (ops.toList.map (e5 P ops))
 |.region _ ops true=>if Mu P ops then .xP (SR (Di P bM ops (eB ops) ops.toList 0))else .bad
 |.seq a b=>.seq (lower bM a) (lower bM b)
 |.cond c a b=>.cond (bK c) (lower bM a) (lower bM b)
 |.block i b=>.block i (lower bM b)
 |.loop b=>.loop (lower bM b)
 |.exit i=>.exit i
 |.scope b=>.scope (lower bM b)
 |.label _=>.label
 |.ret=>.ret
 |.rangeFunc f be a b=>.ad4 (bK f) be.toList (lower bM a) (lower bM b)
 |_=>.bad
end
abbrev I:=Nat->Option Obj
variable {h:I}
def I.cell?(h:I)(a:ar):Option ao:=match h a.block with
 |some (.cells c _ _)=>if a.spot.isSome then none else c[a.off]?
 |_=>none
def I.le(h U:I):Prop:=∀o J,h o=some J->U o=some J
def I.put(h:I)(b:Nat)(J:Obj):I:=λo=>if o=b then some J else h o
def I.del(h:I)(b:Nat):I:=λo=>if o=b then none else h o
def I.of(w:bb):I:=λo=>w.heap[o]?
def lI(h:I)(w:bb):Prop:=∀o J,h o=some J->w.heap[o]?=some J
theorem I.le_refl(h:I):h.le h:=λ_ _ e=>e
theorem I.le_trans{a b c:I}(x:a.le b)(y:b.le c):a.le c:=λo J e=>y o J (x o J e)
theorem I.kL{U:I}(x:h.le U)(e:h.cell? a=some v):U.cell? a=some v:=by
 unfold I.cell? at*;cases af:h a.block with
 |none=>grind
 |some J=>rw[af]at e;rw[x _ _ af];exact e
theorem lI.cell(x:lI h w)(e:h.cell? a=some v):w.cell? a=some v:=by
 unfold I.cell? at e;unfold OK;cases af:h a.block with
 |none=>grind
 |some J=>rw[af]at e;rw[x _ _ af];exact e
theorem lI.mono{U:I}(x:lI U w)(y:h.le U):lI h w:=λo J e=>x o J (y o J e)
theorem I.du{J:Obj}(af:h b=none):h.le (h.put b J):=λo gh e=>by
 unfold I.put
 grind
theorem I.bP(h:I)(b:Nat)(J:Obj):h.put b J b=some J:=by simp[I.put]
theorem I.cf(h:I)(J:Obj)(e:o≠b):h.put b J o=h o:=by simp[I.put,e]
theorem I.Ev(h:I)(b:Nat):h.del b b=none:=by simp[I.del]
theorem I.lP(h:I)(e:o≠b):h.del b o=h o:=by simp[I.del,e]
theorem I.WG(h:I)(b:Nat):(h.del b).le h:=λo J e=>by
 unfold I.del at e
 grind
structure Ext(h:I)(w:bb)(U:I)(aZ:bb):Prop where
 hw:lI U aZ
 os:aZ.os=w.os
 tape:aZ.tape=w.tape
 output:aZ.output=w.output
 size:w.heap.size<=aZ.heap.size
 frame:∀o,o<w.heap.size->h o=none->aZ.heap[o]?=w.heap[o]?
 fresh:∀o,U o≠none->h o≠none\/w.heap.size<=o
structure Fn(P:dW)(f:jh)(args:Array ao)(h:I)(Q:ao->I->Prop):Prop where
 body:∃fn,P.funcs[f]?=some fn/\fn.body.isSome=true/\(fn.name== "runtime.NumGoroutine")=false
 run:∀w,lI h w->Calls P f args w λe aZ=>∃v U,e= .returned v/\Q v U/\Ext h w U aZ
theorem Fn.mono{P:dW}{f:jh}{args:Array ao}{h:I}{Q nt:ao->I->Prop}(x:Fn P f args h Q)(y:∀v U,Q v U->nt v U):Fn P f args h nt:=⟨x.body,λw hw=>(x.run w hw).mono λ_ _⟨v,U,a,b,c⟩=>⟨v,U,a,y _ _ b,c⟩⟩
inductive aA where
 |v (x:ao)
 |p (i off:Nat)
 |s (i off len cap:Nat)
 |m (i:Nat)
 |a (xs:List aA)
 deriving Inhabited
variable {V:aA->Prop}
abbrev bY:=Nat->aA
def aA.c1(β:Nat->Nat):aA->ao
 |.v x=>x
 |.p i off=>.pointer (some ⟨β i,off,none⟩)
 |.s i off len cap=>.slice (some ⟨β i,off,none⟩) len cap
 |.m i=>.map (some (β i))
 |.a _=>eU
def aA.c(β:Nat->Nat):aA->ao
 |.a xs=>.agg (xs.map (aA.c1 β)).toArray
 |bx=>bx.c1 β
inductive LE where
 |own (cells:List aA) (ty:Nat)
 |bV (b:Nat)
 |row (bs size:Nat) (A:Option ar) (n cap:Nat) (xs:List ao)
 |map (f:List Int->Option ao) (n:Nat)
 |gone
 deriving Inhabited
variable {L:List LE}
def b1{α:Type}:List α->Nat->Option α
 |[],_=>none
 |x::_,0=>some x
 |_::l,n+1=>b1 l n
def fN{α:Type}:List α->Nat->α->List α
 |[],_,_=>[]
 |_::l,0,y=>y::l
 |x::l,n+1,y=>x::fN l n y
def takeN{α:Type}:Nat->List α->Option (List α)
 |0,_=>some []
 |_+1,[]=>none
 |n+1,x::l=>match takeN n l with|some r=>some (x::r)|none=>none
def sub{α:Type}(l:List α):Nat->Nat->Option (List α)
 |0,n=>takeN n l
 |off+1,n=>match l with|[]=>none|_::l=>sub l off n
def over{α:Type}:List α->Nat->List α->Option (List α)
 |l,0,[]=>some l
 |[],0,_::_=>none
 |_::l,0,y::aN=>match over l 0 aN with|some r=>some (y::r)|none=>none
 |[],_+1,_=>none
 |x::l,off+1,aN=>match over l off aN with|some r=>some (x::r)|none=>none
theorem pw(l:List α):∀n,b1 l n=l[n]? :=by
 induction l with
 |nil=>simp[b1]
 |cons x l bE=>intro n;cases n<;>simp[b1,bE]
theorem Bl(l:List α)(y:α):∀n,fN l n y=l.set n y:=by
 induction l with
 |nil=>simp[fN]
 |cons x l bE=>intro n;cases n<;>simp[fN,bE]
theorem afb{α:Type}:∀(n:Nat)(l r:List α),takeN n l=some r->r=l.take n/\r.length=n
 |0,l,r,h=>by grind [takeN]
 |n+1,[],r,h=>by grind [takeN]
 |n+1,x::l,r,h=>by
  simp only[takeN]at h;split at h;rename_i cT am;injection h with h;subst h;obtain⟨a,b⟩:=afb n l cT am
  grind
  grind
theorem sub_eq{α:Type}:∀(off n:Nat)(l r:List α),sub l off n=some r->r=(l.drop off).take n/\r.length=n
 |0,n,l,r,h=>by simpa[sub]using afb n l r (by grind [sub])
 |off+1,n,[],r,h=>by grind [sub]
 |off+1,n,x::l,r,h=>by simpa using sub_eq off n l r (by grind [sub])
theorem I3{α:Type}:∀(off:Nat)(l aN r:List α),over l off aN=some r->r.length=l.length/\off+aN.length<=l.length/\(∀o,r[o]?=if off<=o/\o<off+aN.length then aN[o-off]?else l[o]?)
 |0,l,[],r,h=>by
  grind [over]
 |0,[],y::aN,r,h=>by grind [over]
 |0,x::l,y::aN,r,h=>by
  simp only[over]at h;split at h;rename_i cT am;injection h with h;subst h;obtain⟨a,b,c⟩:=I3 0 l aN cT am
  grind
  grind
 |off+1,[],aN,r,h=>by grind [over]
 |off+1,x::l,aN,r,h=>by
  simp only[over]at h;split at h;rename_i cT am;injection h with h;subst h;obtain⟨a,b,c⟩:=I3 off l aN cT am
  grind
  grind
def h7(e:bY)(d:Nat)(x:aA):bY:=λi=>bif gN i d then x else e i
def iR(e:bY):List Nat->List aA->bY
 |d::a7,x::xs=>iR (h7 e d x) a7 xs
 |_,_=>e
def one:aA->Bool
 |.v (.agg _)|.v (.tuple _)|.a _=>false
 |_=>true
def FO:List aA->Bool
 |[]=>true
 |x::l=>one x&&FO l
def cellsOf:aA->Option (List aA)
 |.a xs=>some xs
 |.v (.agg cs)=>some (cs.toList.map .v)
 |.v (.tuple _)=>none
 |x=>some [x]
def xU(L:List LE):aA->Option ao
 |.v x=>some x
 |.p i off=>match b1 L i with|some (.bV b)=>some (.pointer (some ⟨b,off,none⟩))|_=>none
 |.s i off len cap=>match b1 L i with|some (.bV b)=>some (.slice (some ⟨b,off,none⟩) len cap)|_=>none
 |.m i=>match b1 L i with|some (.bV b)=>some (.map (some b))|_=>none
 |.a _=>none
def qf(L:List LE):List aA->Option (List ao)
 |[]=>some []
 |x::l=>match xU L x,qf L l with|some v,some r=>some (v::r)|_,_=>none
def raw(L:List LE):aA->Option ao
 |.a xs=>match qf L xs with|some r=>some (.agg r.toArray)|none=>none
 |x=>xU L x
def mY(L:List LE):List aA->Option (List ao)
 |[]=>some []
 |x::l=>match raw L x,mY L l with|some v,some r=>some (v::r)|_,_=>none
def Mm(L:List LE):aA->Option Nat
 |.p i _|.s i _ _ _=>match b1 L i with|some (.own _ _)=>some i|_=>none
 |.m i=>match b1 L i with|some (.map _ _)=>some i|_=>none
 |_=>none
def IP(L:List LE):List aA->Option Nat
 |[]=>none
 |x::l=>match Mm L x with|some i=>some i|none=>IP L l
def acy(L:List LE):aA->Option Nat
 |.a xs=>IP L xs
 |x=>Mm L x
def IN(L:List LE):List aA->Option Nat
 |[]=>none
 |x::l=>match acy L x with|some i=>some i|none=>IN L l
def fe(b:Bool)(x y:Prop):Prop:=match b with|true=>x|false=>y
theorem uK{b:Bool}{x y:Prop}(t:b=true->x)(f:b=false->y):fe b x y:=by
 cases b;exact f rfl;exact t rfl
theorem aW{c:Prop}[Decidable c]{x y:Prop}(t:c->x)(f:¬c->y):fe (decide c) x y:=uK (λh=>t (qb h)) (λh=>f (tZ h))
inductive NP(L:List LE)(h:I)(a:ar)(V:aA->Prop):Prop
 |hp (v:ao) (aw:h.cell? a=some v) (k:V (.v v))
 |row (i bs size:Nat) (g:ar) (n cap:Nat) (xs:List ao) (o:Nat) (v:ao) (ag:b1 L i=some (.row bs size (some g) n cap xs)) (a6:a=g.add o) (ah:xs[o]?=some v) (k:V (.v v))
inductive NQ(L:List LE)(h:I)(a:ar)(n:Nat)(V:aA->Prop):Prop
 |hp (au:List ao) (al:au.length=n) (aw:∀o v,au[o]?=some v->h.cell? (a.add o)=some v) (k:V (.a (au.map .v)))
 |row (i bs size:Nat) (g:ar) (m cap:Nat) (xs:List ao) (o:Nat) (au:List ao) (ag:b1 L i=some (.row bs size (some g) m cap xs)) (a6:a=g.add o) (al:au.length=n)
  (ah:∀k v,au[k]?=some v->xs[o+k]?=some v) (k:V (.a (au.map .v)))
inductive Ux(A:Option ar)(n:Nat)(z:Int)(V:ar->Prop):Prop
 |mk (a:ar) (a6:A=some a) (ai:0<=z) (h1:z<n) (k:V a)
inductive Uv(n:Nat)(z:Int)(V:Prop):Prop
 |mk (ai:0<=z) (h1:z<n) (k:V)
inductive Uy(n:Nat)(z:Int)(V:Nat->Prop):Prop
 |mk (ai:0<=z) (h1:z<n) (k:V z.toNat)
def KK(n:Nat)(z:Int)(V:Nat->Prop):Prop:=match z with
 |.ofNat k=>bif GR k n then V k else False
 |.negSucc _=>False
theorem Xe{V:Nat->Prop}(h:KK n z V):0<=z/\z<n/\V z.toNat:=by
 unfold KK at h;split at h;simp_all
 grind
inductive BC(z:Int)(V:Int->Prop):Prop
 |ok (ai: -9223372036854775808<=z) (h1:z<=9223372036854775807) (k:V z)
 |wrap (k:V (IntKind.i64.wrap z))
theorem Ux.m{A:Option ar}{V:ar->Prop}(a:ar)(a6:A=some a)(k:V a)(ai:0<=z:=by omega)(h1:z<n:=by omega):Ux A n z V:=.mk a a6 ai h1 k
theorem Ux.r{V:ar->Prop}(k:V a)(ai:0<=z:=by omega)(h1:z<n:=by omega):Ux (some a) n z V:=.mk a rfl ai h1 k
theorem BC.aLS{V:Int->Prop}(k:V z)(ai: -9223372036854775808<=z:=by omega)(h1:z<=9223372036854775807:=by omega):BC z V:=.ok ai h1 k
inductive JQ(d':yl)(z:Int)(V:Int->Prop):Prop
 |mk (ai:0<=z) (h1:z<=9223372036854775807) (k:V z)
 |wrap (k:V (d'.wrap z))
inductive DV(op:r8)(p9:yl)(x:Int)(p':yl)(y:Int)(V:aA->Prop):Prop
 |mk (v:ao) (ad:∀(P:dW)(w:bb),(binOp op 0 (.int p9 x) (.int p' y)).run P w= .ok v w) (k:V (.v v))
def KJ(op:r8)(a b:Int)(V:aA->Prop)(dK:Prop):Prop:=match op with
 |.eql=>V (.v (.bool (decide (a=b))))
 |.neq=>V (.v (.bool (decide (a≠b))))
 |.lss=>V (.v (.bool (decide (a<b))))
 |.leq=>V (.v (.bool (decide (a<=b))))
 |.gtr=>V (.v (.bool (decide (b<a))))
 |.geq=>V (.v (.bool (decide (b<=a))))
 |_=>dK
inductive Uw(y:Int)(V:Prop):Prop
 |mk (h:y≠0) (k:V)
def Pd:r8->Int->Int->Bool
 |.eql,x,y=>decide (x=y)
 |.neq,x,y=>decide (x≠y)
 |.lss,x,y=>decide (x<y)
 |.leq,x,y=>decide (x<=y)
 |.gtr,x,y=>decide (y<x)
 |_,x,y=>decide (y<=x)
def dB.get(e:bY):dB->aA
 |.t n=>e n
 |.c v=>.v v
 |.rx g=>.v (.pointer (some ⟨g,0,none⟩))
 |.fn f=>.v (.func (.func f) #[] #[])
def force(x:aA)(V:aA->Prop):Prop:=match x with
 |.v y=>V (.v y)
 |.p i off=>V (.p i off)
 |.s i off len cap=>V (.s i off len cap)
 |.m i=>V (.m i)
 |.a xs=>V (.a xs)
theorem force_eq(x:aA)(V:aA->Prop):force x V=V x:=by cases x<;>rfl
def flip(neg b:Bool):Bool:=match neg with|true=>!b|false=>b
def yL:List aA->List (Nat×Nat×aA)->Option (List aA)
 |cs,[]=>some cs
 |cs,(off,size,x)::r=>match cellsOf x with
  |some aN=>bif gN aN.length size then(match over cs off aN with|some gQ=>yL gQ r|none=>none)else none
  |none=>none
def B0:aA->Option (List aA)
 |.a xs=>some xs
 |.v (.agg cs)=>some (cs.toList.map .v)
 |_=>none
def FR(e:bY):Option dB->Option aA
 |none=>none
 |some x=>some (x.get e)
inductive Gw(A:Option ar)(n cap:Nat)(size:Nat)(bX ag:Int)(V:aA->Prop):Prop
 |mk (l k:Nat) (al:bX=l) (hk:ag=k) (ai:l<=k) (h1:k<=cap) (bQ:∀B,(l<cap->B=A.map (·.add (l*size)))->(l=cap->B=A)->V (.v (.slice B (k-l) (cap-l))))
def xi:List aA->List aA->Option Bool
 |[],[]=>some true
 |.v (.int .i64 a)::l,.v (.int .i64 b)::r=>match xi l r with|some t=>some (decide (a=b)&&t)|none=>none
 |_,_=>none
structure gr where
 k:List Int
 v:ao
 born:Nat
def jN(bQ:Nat)(k:List Int):ao:=match bQ with
 |0=>(match k with|[a]=>.int .i64 a|_=>eU)
 |_=>.agg (k.map (Value.int .i64)).toArray
def jl(bQ:Nat)(x:gr):zV:={key:=jN bQ x.k,val:=x.v,born:=x.born}
def jE(bQ:Nat)(l:List gr)(b':Nat):Obj:=.map (l.map (jl bQ)).toArray b'
def sM:Nat->Nat
 |0=>1
 |n=>n-5
def iw:List gr->List Int->Option ao
 |[],_=>none
 |x::l,k=>if k=x.k then some x.v else iw l k
def upsert:List gr->List Int->ao->Nat->List gr
 |[],k,v,c=>[⟨k,v,c⟩]
 |x::l,k,v,c=>if k=x.k then⟨x.k,v,x.born⟩::l else x::upsert l k v c
structure wV(h:I)(b bQ:Nat)(l:List gr)(b':Nat):Prop where
 at_:h b=some (jE bQ l b')
 keys:∀x∈l,x.k.length=sM bQ
def ints:List aA->Option (List Int)
 |[]=>some []
 |.v (.int .i64 a)::l=>match ints l with|some r=>some (a::r)|none=>none
 |_=>none
def LZ(bQ:Nat)(x:aA):Option (List Int):=match bQ with
 |0=>(match x with|.v (.int .i64 a)=>some [a]|_=>none)
 |bQ=>(match B0 x with
  |some xs=>(match ints xs with|some dt=>bif gN (dt.length+5) bQ then some dt else none|none=>none)
  |none=>none)
inductive agD(h:I)(b bQ:Nat)(dt:List Int)(V:Option ao->Prop):Prop
 |mk (l:List gr) (b':Nat) (hm:wV h b bQ l b') (k:V (iw l dt))
inductive agG(h:I)(b:Nat)(V:Int->Prop):Prop
 |mk (bQ:Nat) (l:List gr) (b':Nat) (hm:wV h b bQ l b') (k:V l.length)
def Pw(op:r8)(x y:aA)(V:aA->Prop):Prop:=match x,y with
 |.v (.int .u8 a),.v (.int .u8 b)=>KJ op a b V (DV op .u8 a .u8 b V)
 |.v (.int .u64 a),.v (.int .u64 b)=>KJ op a b V (DV op .u64 a .u64 b V)
 |.v (.int p9 a),.v (.int p' b)=>DV op p9 a p' b V
 |_,_=>False
def eX(k:kk)(e:bY)(L:List LE)(h:I)(V:aA->Prop):Prop:=
 match k with
 |.b2 x=>force (x.get e) V
 |.pick c a b=>(match c.get e with
  |.v (.bool t)=>fe t (force (a.get e) V) (force (b.get e) V)
  |_=>False)
 |.load true n x=>(match x.get e with
  |.p i off=>(match b1 L i with
   |some (.own cs _)=>(match sub cs off n with|some r=>V (.a r)|none=>False)
   |some (.bV b)=>NQ L h ⟨b,off,none⟩ n V
   |_=>False)
  |.v (.pointer (some a))=>NQ L h a n V
  |_=>False)
 |.load false _ x=>(match x.get e with
  |.p i off=>(match b1 L i with
   |some (.own cs _)=>(match b1 cs off with|some (.a _)=>False|some r=>V r|none=>False)
   |some (.bV b)=>NP L h ⟨b,off,none⟩ V
   |_=>False)
  |.v (.pointer (some a))=>NP L h a V
  |_=>False)
 |.h0 x=>(match x.get e with
  |.p i off=>V (.p i off)
  |.v (.pointer (some a))=>V (.v (.pointer (some a)))
  |_=>False)
 |.arith op x y=>(match x.get e,y.get e with
  |.v (.int .i64 a),.v (.int .i64 b)=>(match op with
   |.add=>BC (a+b) λz=>V (.v (.int .i64 z))
   |.sub=>BC (a-b) λz=>V (.v (.int .i64 z))
   |.mul=>BC (a*b) λz=>V (.v (.int .i64 z))
   |_=>False)
  |_,_=>False)
 |.cmp op x y=>(match x.get e,y.get e with
  |.v (.int .i64 a),.v (.int .i64 b)=>(match op with
   |.eql=>V (.v (.bool (decide (a=b))))
   |.neq=>V (.v (.bool (decide (a≠b))))
   |.lss=>V (.v (.bool (decide (a<b))))
   |.leq=>V (.v (.bool (decide (a<=b))))
   |.gtr=>V (.v (.bool (decide (b<a))))
   |.geq=>V (.v (.bool (decide (b<=a))))
   |_=>False)
  |_,_=>False)
 |.unop .not x=>(match x.get e with
  |.v (.bool b)=>V (.v (.bool (!b)))
  |_=>False)
 |.dq off x=>(match x.get e with
  |.p i J=>V (.p i (J+off))
  |.v (.pointer (some a))=>V (.v (.pointer (some (a.add off))))
  |_=>False)
 |.dX size x i=>(match x.get e,i.get e with
  |.v (.slice A n _),.v (.int .i64 z)=>Ux A n z λa=>V (.v (.pointer (some (a.add (z.toNat*size)))))
  |.s l off n _,.v (.int .i64 z)=>Uv n z (V (.p l (off+z.toNat*size)))
  |.v (.slice A n _),.v (.int .u8 z)=>Ux A n z λa=>V (.v (.pointer (some (a.add (z.toNat*size)))))
  |.s l off n _,.v (.int .u8 z)=>Uv n z (V (.p l (off+z.toNat*size)))
  |_,_=>False)
 |.LO len size x i=>(match x.get e,i with
  |.v (.pointer (some a)),.c (.int .i64 z)=>KK len z λk=>V (.v (.pointer (some (a.add (k*size)))))
  |.p l off,.c (.int .i64 z)=>KK len z λk=>V (.p l (off+k*size))
  |.v (.pointer (some a)),.t _=>(match i.get e with
   |.v (.int .i64 z)=>Uy len z λk=>V (.v (.pointer (some (a.add (k*size)))))
   |.v (.int .u64 z)=>Uy len z λk=>V (.v (.pointer (some (a.add (k*size)))))
   |_=>False)
  |_,_=>False)
 |.len _ x=>(match x.get e with
  |.v (.slice _ n _)=>V (.v (.int .i64 n))
  |.s _ _ n _=>V (.v (.int .i64 n))
  |_=>False)
 |.extract x i=>(match x.get e with
  |.v (.tuple au)=>(match b1 au.toList i with|some v=>V (.v v)|none=>False)
  |_=>False)
 |.build zero parts=>(match yL (zero.map .v) (parts.map λp=>(p.1,p.2.1,p.2.2.get e))with
  |some cs=>V (.a cs)
  |none=>False)
 |.eqv neg 0 x y=>(match x.get e,y.get e with
  |.v (.bool a),.v (.bool b)=>V (.v (.bool (flip neg (a==b))))
  |_,_=>False)
 |.eqv neg 1 x y=>(match x.get e,y.get e with
  |.v (.pointer A),.v (.pointer none)=>V (.v (.bool (flip neg A.isNone)))
  |.p _ _,.v (.pointer none)=>V (.v (.bool neg))
  |_,_=>False)
 |.eqv neg 2 x y=>(match x.get e,y.get e with
  |.v (.slice A _ _),.v (.slice none _ _)=>V (.v (.bool (flip neg A.isNone)))
  |.s _ _ _ _,.v (.slice none _ _)=>V (.v (.bool neg))
  |_,_=>False)
 |.eqv neg 3 x y=>(match x.get e,y.get e with
  |.v .nilFunc,.v .nilFunc=>V (.v (.bool (flip neg true)))
  |.v (.func _ _ _),.v .nilFunc=>V (.v (.bool neg))
  |_,_=>False)
 |.eqv neg (n+5) x y=>(match B0 (x.get e),B0 (y.get e)with
  |some xs,some aN=>bif gN xs.length n&&gN aN.length n then(match xi xs aN with|some b=>V (.v (.bool (flip neg b)))|none=>False)else False
  |_,_=>False)
 |.neg x=>(match x.get e with
  |.v (.int .i64 a)=>BC (0-a) λz=>V (.v (.int .i64 z))
  |_=>False)
 |.IL jq x y=>(match x.get e,y.get e with
  |.v (.int .i64 a),.v (.int .i64 b)=>(match jq with
   |true=>V (.v (.int .i64 (max a b)))
   |false=>V (.v (.int .i64 (min a b))))
  |_,_=>False)
 |.Ew op x y=>(match x.get e,y.get e with
  |.v (.int .i64 a),.v (.int .i64 b)=>(match op with
   |.quo=>Uw b (BC (a.tdiv b) λz=>V (.v (.int .i64 z)))
   |.rem=>Uw b (V (.v (.int .i64 (a.tmod b))))
   |_=>False)
  |_,_=>False)
 |.slice size x bX ag=>(match x.get e,FR e bX,FR e ag with
  |.v (.slice A n cap),none,none=>Gw A n cap size 0 n V
  |.v (.slice A n cap),some (.v (.int .i64 l)),none=>Gw A n cap size l n V
  |.v (.slice A n cap),none,some (.v (.int .i64 k))=>Gw A n cap size 0 k V
  |.v (.slice A n cap),some (.v (.int .i64 l)),some (.v (.int .i64 k))=>Gw A n cap size l k V
  |_,_,_=>False)
 |.field agg off n x=>(match B0 (x.get e)with
  |some cs=>(match agg with
   |true=>(match sub cs off n with|some r=>V (.a r)|none=>False)
   |false=>(match b1 cs off with|some (.a _)=>False|some r=>V r|none=>False))
  |none=>False)
 |.lookup bQ zero x k ok=>(match x.get e,LZ bQ (k.get e)with
  |.v (.map (some b)),some dt=>agD h b bQ dt λr=>(match ok with
   |true=>V (.v (.tuple #[r.getD zero,.bool r.isSome]))
   |false=>V (.v (r.getD zero)))
  |_,_=>False)
 |.Fu x=>(match x.get e with
  |.v (.map (some b))=>agG h b λz=>V (.v (.int .i64 z))
  |_=>False)
 |.conv 0 0 x=>(match x.get e with
  |.v (.int .i64 z)=>JQ .u64 z λz=>V (.v (.int .u64 z))
  |_=>False)
 |.conv 1 0 x=>(match x.get e with
  |.v (.int .u64 z)=>JQ .i64 z λz=>V (.v (.int .i64 z))
  |_=>False)
 |.Ph k x=>(match x.get e with
  |.v (.int _ z)=>V (.v (.int k (k.wrap z)))
  |_=>False)
 |.M' x=>(match x.get e with
  |.v (.string s)=>V (.v (.int .i64 s.size))
  |_=>False)
 |.tm .shr 0 x y=>(match x.get e,y.get e with
  |.v (.int .u64 z),.v (.int .u64 1)=>V (.v (.int .u64 (z.fdiv 2)))
  |.v (.int p9 a),.v (.int p' b)=>DV .shr p9 a p' b V
  |_,_=>False)
 |.tm op _ x y=>Pw op (x.get e) (y.get e) V
 |_=>False
theorem OT(k e1:List Int)(v:ao)(c:Nat):∀l,iw (upsert l k v c) e1=if e1=k then some v else iw l e1
 |[]=>by rfl
 |x::l=>by
  simp only[upsert];split;rename_i hk;simp_all[iw,<-hk];rename_i hk;simp only[iw,OT k e1 v c l]
  grind
def LE.isRow:LE->Bool
 |.row .. =>true
 |_=>false
def fi(L:List LE)(i:Nat):Prop:=∃l,b1 L i=some l/\l.isRow=false
def aA.h6(L:List LE):aA->Prop
 |.p i _|.s i _ _ _|.m i=>fi L i
 |_=>True
def aA.ok(L:List LE):aA->Prop
 |.a xs=>∀x∈xs,x.h6 L
 |x=>x.h6 L
def LY:ao->Option (List Int)
 |.int .i64 a=>some [a]
 |.agg cs=>cs.toList.mapM λ|.int .i64 a=>some a|_=>none
 |_=>none
structure ahy(es:Array zV)(f:List Int->Option ao)(n:Nat):Prop where
 size:es.size=n
 keys:∀(i:Nat)(e:zV),es[i]?=some e->∃k,LY e.key=some k/\f k=some e.val
 all:∀k v,f k=some v->∃(i:Nat)(e:zV),es[i]?=some e/\LY e.key=some k/\e.val=v
 inj:∀(i o:Nat)(e bl:zV)(k:List Int),es[i]?=some e->es[o]?=some bl->LY e.key=some k->LY bl.key=some k->i=o
def LE.eL(β:Nat->Nat)(i:Nat)(w:bb):LE->Prop
 |.own cs ty=>w.heap[β i]?=some (.cells (cs.map (aA.c1 β)).toArray ty (0,0))
 |.bV b=>β i=b
 |.row bs size A n cap xs=>w.ownsRow 0 bs size (.slice A n cap) n xs/\∀g,A=some g->g.block=β i
 |.map f n=>∃es b',w.heap[β i]?=some (.map es b')/\ahy es f n
 |.gone=>True
structure jQ(β:Nat->Nat)(L:List LE)(h:I)(w:bb):Prop where
 hw:lI h w
 bR:∀i l,b1 L i=some l->l.eL β i w
structure cJ(n:Nat)(β:Nat->Nat)(L:List LE)(e:bY)(a:Act):Prop where
 defers:a.defers=[]
 size:a.tmps.size=n
 env:∀t,a.tmps.getD t eU=(e t).c β
 ok:∀t,(e t).ok L
theorem aA.O4{x:aA}(h:∀xs,x≠.a xs):x.c β=x.c1 β:=by
 cases x<;>first|rfl|grind
theorem cJ.eval{n:Nat}{L:List LE}{β:Nat->Nat}{e:bY}{a:Act}(r:cJ n β L e a)(x:e3):a.eval x=((bK x).get e).c β:=by
 cases x with
 |tmp t=>exact r.env t
 |const v=>rfl
 |global g=>rfl
 |func f=>rfl
theorem cJ.qY{e:bY}{a:Act}(r:cJ n β L e a)(x:e3):((bK x).get e).ok L:=by
 cases x with
 |tmp t=>exact r.ok t
 |const v=>trivial
 |global g=>trivial
 |func f=>trivial
theorem add_lit(b J k:Nat):(ou b J none).add k=⟨b,J+k,none⟩:=by
 unfold Gn;simp
theorem uE(a:ar)(i o:Nat):(a.add i).add o=a.add (i+o):=by
 unfold Gn
 grind
section
variable {P:dW}{w:bb}
theorem run_loadCellsFrom(a:ar):∀(au:List ao)(i:Nat)(aDC:Array ao),(∀o v,au[o]?=some v->w.cell? (a.add (i+o))=some v)->(abR a i au.length aDC).run P w= .ok (aDC++au.toArray) w
 |[],i,aDC,_=>by rfl
 |v::au,i,aDC,h=>by
  have ai:w.cell? (a.add i)=some v:=h 0 v rfl;simp only[gI,abR,aDF,run_load,ai,hd];rw[run_loadCellsFrom a au (i+1) (aDC.push v) (λo u hu=>by have:=h (o+1) u (by grind);grind)];simp
theorem run_loadCells(a:ar)(au:List ao)(h:∀o v,au[o]?=some v->w.cell? (a.add o)=some v):(loadCells a au.length).run P w= .ok au.toArray w:=by
 unfold loadCells;rw[run_loadCellsFrom a au 0 #[] (by grind)];simp
theorem MW(h:P.underlying t≠none):(isAgg t).run P w= .ok (oq P t) w:=by
 unfold isAgg oq;cases hu:P.underlying t with
 |none=>grind
 |some d=>cases d<;>simp[underlying,hu]
theorem run_sizeOf{i:BY}(h:P.info? t=some i):(sizeOf t).run P w= .ok i.size w:=by
 simp[sizeOf,Bq,h]
theorem x6{i:BY}(h:P.info? t=some i):ir P t=i.size:=by simp[ir,h]
end
theorem M3(s:jQ β L h w){cs:List aA}{ty:Nat}(ag:b1 L i=some (.own cs ty)){off:Nat}{x:aA}(ad:cs[off]?=some x):w.cell? ⟨β i,off,none⟩=some (x.c1 β):=by
 have:=s.bR i _ ag;simp_all[LE.eL,OK,this,ad]
theorem Jn(s:jQ β L h w){bs size cap:Nat}{g:ar}{xs:List ao}(ag:b1 L i=some (.row bs size (some g) n cap xs))(ah:xs[o]?=some v):w.cell? (g.add o)=some v:=by
 obtain⟨⟨_,am⟩,_⟩:=s.bR i _ ag;rcases am with⟨ai,_⟩|⟨b,c,a8,jZ,_,af,_,_,_,rK⟩
 grind
 injection jZ with aJ _ _;injection aJ with aJ;subst aJ;rw[add_lit];have aw:a8[o]?=some v:=by
  grind
 simp[OK,af,aw]
section
variable {P:dW}{n:Nat}{β:Nat->Nat}{L:List LE}{h:I}{e:bY}{a:Act}
theorem yz{bd:List LE}{x:aA}(ad:x.h6 L)(hm:∀i,fi L i->fi bd i):x.h6 bd:=by
 cases x<;>simp only[aA.h6]at* <;>exact hm _ ad
theorem au0{bd:List LE}{x:aA}(ad:x.ok L)(hm:∀i,fi L i->fi bd i):x.ok bd:=by
 cases x with
 |a xs=>exactλy aQ=>yz (ad y aQ) hm
 |_=>simp only[aA.ok]at*;exact yz ad hm
def Yields(P:dW)(J:b8)(a:Act)(β:Nat->Nat)(L:List LE)(h:I)(bx:aA):Prop:=∀w,jQ β L h w->(cY a.eval J).run P w= .ok (.value (bx.c β)) w
theorem j4{l:List α}{x:α}(h:b1 l i=some x):i<l.length:=by
 rw[pw]at h
 grind
theorem Xs(am:cJ n β L e a)(aL:J.op= .move x)(ah:eX (.b2 (bK x)) e L h V):∃bx,V bx/\bx.ok L/\Yields P J a β L h bx:=by
 simp only[eX,force_eq]at ah;refine⟨_,ah,am.qY x,λw _=>?_⟩;simp[cY,aL,am.eval x]
theorem Xu(am:cJ n β L e a){c:e3}(aL:J.op= .pick c x y)(ah:eX (.pick (bK c) (bK x) (bK y)) e L h V):∃bx,V bx/\bx.ok L/\Yields P J a β L h bx:=by
 simp only[eX,force_eq]at ah;split at ah;rename_i t aw;cases t with
 |true=>exact⟨_,ah,am.qY x,λw _=>by simp[cY,aL,am.eval c,aw,aA.c,aA.c1,asBool,am.eval x]⟩
 |false=>exact⟨_,ah,am.qY y,λw _=>by simp[cY,aL,am.eval c,aw,aA.c,aA.c1,asBool,am.eval y]⟩
 grind
theorem x5(av:iP P t=true):∃i,P.info? t=some i:=by
 simp only[iP,fY,Ou]at av
 grind
theorem Ng(av:iP P t=true):P.underlying t≠none:=by
 simp only[iP,fY,Ou]at av
 grind
theorem Tk(av:iP P t=true)(ak:oq P t=false){cc:ar}(aw:w.cell? cc=some v):(RV t cc).run P w= .ok v w:=by
 simp[RV,MW (Ng av),ak,aw]
theorem Tj(av:iP P t=true)(ak:oq P t=true){cc:ar}{au:List ao}(al:au.length=ir P t)(aw:∀o v,au[o]?=some v->w.cell? (cc.add o)=some v):(RV t cc).run P w= .ok (.agg au.toArray) w:=by
 obtain⟨i,ag⟩:=x5 av;have aj:i.size=au.length:=by rw[al,x6 ag]
 simp[RV,MW (Ng av),ak,run_sizeOf ag,aj,run_loadCells cc au aw]
theorem au2{cs:List aA}(fg:∀x∈cs,x.h6 L){x:aA}(ad:b1 cs i=some x):x.h6 L:=by
 rw[pw]at ad
 grind
theorem acX{x:aA}(ad:x.h6 L)(aC:∀xs,x≠.a xs):x.ok L:=by
 cases x with
 |a xs=>grind
 |_=>exact ad
def de(L:List LE):Prop:=∀i cs ty,b1 L i=some (.own cs ty)->∀x∈cs,x.h6 L
theorem B7(β:Nat->Nat)(au:List ao):(au.map aA.v).map (aA.c1 β)=au:=by
 induction au with
 |nil=>rfl
 |cons v au bE=>simp only[eO,bE];rfl
theorem Wa(β:Nat->Nat)(au:List ao):aA.c β (.a (au.map .v))= .agg au.toArray:=by
 show Ke ((au.map aA.v).map (aA.c1 β)).toArray=_;rw[B7]
theorem acY(L:List LE)(au:List ao):aA.ok L (.a (au.map .v)):=by
 intro x ad;obtain⟨v,_,rfl⟩:=dn.1 ad;trivial
theorem Tu(hw:jQ β L h w){off:Nat}(ag:b1 L i=some (.bV b)):aA.c β (.p i off)= .pointer (some ⟨b,off,none⟩):=by
 have:=hw.bR i _ ag;simp only[LE.eL]at this;subst this;rfl
theorem Pz(am:cJ n β L e a)(aF:de L)(aL:J.op= .load t x)(av:iP P t=true)(ah:eX (.load (oq P t) (ir P t) (bK x)) e L h V):∃bx,V bx/\bx.ok L/\Yields P J a β L h bx:=by
 have ad:=am.eval x;cases ak:oq P t with
 |true=>
  simp only[ak,eX]at ah;have raw:∀cc:ar,(∀w,jQ β L h w->((bK x).get e).c β= .pointer (some cc))->NQ L h cc (ir P t) V->∃bx,V bx/\bx.ok L/\Yields P J a β L h bx:=by
   intro cc hp al;cases al with
   |hp au al aw k=>
    refine⟨_,k,acY _ _,λw hw=>?_⟩;rw[Wa];simp[cY,aL,ad,hp w hw,zQ,qq,Tj av ak al (λo v e=>hw.hw.cell (aw o v e))]
   |row i bs size g m cap xs o au ag a6 al Q5 k=>
    refine⟨_,k,acY _ _,λw hw=>?_⟩;subst a6;rw[Wa];simp[cY,aL,ad,hp w hw,zQ,qq,Tj av ak al (λq v e=>by rw[uE];exact Jn hw ag (Q5 q v e))]
  split at ah;rename_i i off hp;split at ah;rename_i cs ty ag;split at ah;rename_i r aj;obtain⟨qQ,iK⟩:=sub_eq _ _ _ _ aj;refine⟨_,ah,?_,λw hw=>?_⟩;show∀y∈r,y.h6 L;intro y aQ;rw[qQ]at aQ;exact aF i cs ty ag y (List.mem_of_mem_drop (List.mem_of_mem_take aQ));have lV:∀o v,(r.map (aA.c1 β))[o]?=some v->w.cell? ((ou (β i) off none).add o)=some v:=by
   intro o v e;rw[List.getElem?_map,Option.map_eq_some_iff]at e;obtain⟨y,aQ,rfl⟩:=e;rw[add_lit];refine M3 hw ag ?_
   grind
  have eb:(r.map (aA.c1 β)).length=ir P t:=by grind
  simp[cY,aL,ad,hp,aA.c,aA.c1,zQ,qq,Tj av ak eb lV]
  grind
  rename_i b ag;exact raw ⟨b,off,none⟩ (λw hw=>by rw[hp];exact Tu hw ag) ah
  grind
  rename_i cc hp;exact raw cc (λ_ _=>by rw[hp];rfl) ah
  grind
 |false=>
  simp only[ak,eX]at ah;have raw:∀cc:ar,(∀w,jQ β L h w->((bK x).get e).c β= .pointer (some cc))->NP L h cc V->∃bx,V bx/\bx.ok L/\Yields P J a β L h bx:=by
   intro cc hp al;cases al with
   |hp v aw k=>
    refine⟨_,k,trivial,λw hw=>?_⟩;show _=ah4 (ahR v) w;simp[cY,aL,ad,hp w hw,zQ,qq,Tk av ak (hw.hw.cell aw)]
   |row i bs size g m cap xs o v ag a6 Q5 k=>
    refine⟨_,k,trivial,λw hw=>?_⟩;subst a6;show _=ah4 (ahR v) w;simp[cY,aL,ad,hp w hw,zQ,qq,Tk av ak (Jn hw ag Q5)]
  split at ah;rename_i i off hp;split at ah;rename_i cs ty ag;split at ah
  grind
  rename_i r bH aj;have aC:∀xs,r≠.a xs:=λxs e=>bH xs e;refine⟨_,ah,acX (au2 (aF i cs ty ag) aj) aC,λw hw=>?_⟩;rw[aA.O4 aC];simp[cY,aL,ad,hp,aA.c,aA.c1,zQ,qq,Tk av ak (M3 hw ag (by rw[<-pw];exact aj))]
  grind
  rename_i b ag;exact raw ⟨b,off,none⟩ (λw hw=>by rw[hp];exact Tu hw ag) ah
  grind
  rename_i cc hp;exact raw cc (λ_ _=>by rw[hp];rfl) ah
  grind
theorem Xt(am:cJ n β L e a)(aL:J.op= .nilCheck x)(ah:eX (.h0 (bK x)) e L h V):∃bx,V bx/\bx.ok L/\Yields P J a β L h bx:=by
 have ad:=am.eval x;have hk:=am.qY x;simp only[eX]at ah;split at ah;rename_i i off hp;rw[hp]at hk;exact⟨_,ah,hk,λw hw=>by simp[cY,aL,ad,hp,aA.c,aA.c1]⟩;rename_i cc hp;exact⟨_,ah,trivial,λw hw=>by simp[cY,aL,ad,hp,aA.c,aA.c1]⟩
 grind
theorem BC.out{V:Int->Prop}(aP:BC z V):V (IntKind.i64.wrap z):=by
 cases aP with
 |ok ai h1 k=>rw[show IntKind.i64.wrap z=z from IntWalk.i64_in z ⟨ai,h1⟩];exact k
 |wrap k=>exact k
theorem akh(am:cJ n β L e a)(aL:J.op= .binOp op t x y hy)(ah:eX (.arith op (bK x) (bK y)) e L h V):∃bx,V bx/\bx.ok L/\Yields P J a β L h bx:=by
 have ad:=am.eval x;have aQ:=am.eval y;simp only[eX]at ah;split at ah;rename_i i o hp aq;rw[hp]at ad;rw[aq]at aQ;split at ah;exact⟨_,ah.out,trivial,λw hw=>by simp[cY,aL,ad,aQ,aA.c,aA.c1,binOp_add,eqGuard_add,D1]⟩;exact⟨_,ah.out,trivial,λw hw=>by simp[cY,aL,ad,aQ,aA.c,aA.c1,binOp_sub,eqGuard_sub,D1]⟩;exact⟨_,ah.out,trivial,λw hw=>by simp[cY,aL,ad,aQ,aA.c,aA.c1,binOp_mul,eqGuard_mul,D1]⟩
 grind
 grind
theorem akj(am:cJ n β L e a)(aL:J.op= .binOp op t x y hy)(ah:eX (.cmp op (bK x) (bK y)) e L h V):∃bx,V bx/\bx.ok L/\Yields P J a β L h bx:=by
 have ad:=am.eval x;have aQ:=am.eval y;simp only[eX]at ah;split at ah;rename_i i o hp aq;rw[hp]at ad;rw[aq]at aQ;split at ah;exact⟨_,ah,trivial,λw hw=>by simp[cY,aL,ad,aQ,aA.c,aA.c1,binOp_eql,Hi];rfl⟩;exact⟨_,ah,trivial,λw hw=>by simp[cY,aL,ad,aQ,aA.c,aA.c1,binOp_neq,Hi];rfl⟩;exact⟨_,ah,trivial,λw hw=>by simp[cY,aL,ad,aQ,aA.c,aA.c1,binOp_lss,Hi]⟩;exact⟨_,ah,trivial,λw hw=>by simp[cY,aL,ad,aQ,aA.c,aA.c1,binOp_leq,Hi]⟩;exact⟨_,ah,trivial,λw hw=>by simp[cY,aL,ad,aQ,aA.c,aA.c1,binOp_gtr,Hi]⟩;exact⟨_,ah,trivial,λw hw=>by simp[cY,aL,ad,aQ,aA.c,aA.c1,binOp_geq,Hi]⟩
 grind
 grind
theorem akn(am:cJ n β L e a)(aL:J.op= .unOp .not t x)(ah:eX (.unop .not (bK x)) e L h V):∃bx,V bx/\bx.ok L/\Yields P J a β L h bx:=by
 have ad:=am.eval x;simp only[eX]at ah;split at ah;rename_i b hp;exact⟨_,ah,trivial,λw hw=>by simp[cY,aL,ad,hp,aA.c,aA.c1,Op.unary]⟩
 grind
theorem Xm(am:cJ n β L e a){f:Field}(aL:J.op= .fieldAddr t x i)(az:Av P t i=some f)(av:(iP P f.type&& !gN (ir P f.type) 0)=true)(ah:eX (.dq f.offset (bK x)) e L h V):∃bx,V bx/\bx.ok L/\Yields P J a β L h bx:=by
 have ad:=am.eval x;have hk:=am.qY x;simp only[fY]at av;obtain⟨av,aY⟩:=av;obtain⟨o,ae⟩:=x5 av;have ht:o.size≠0:=λe=>by rw[x6 ae,e]at aY;cases aY
 have rC:∃a',P.underlying t=some (.struct a')/\a'[i]?=some f:=by
  unfold Av at az
  grind
 obtain⟨a',hu,AB⟩:=rC;have go:∀(w:bb)(cc:ar),(fieldPlace cc f).run P w= .ok (cc.add f.offset) w:=λw cc=>by
  simp[fieldPlace,run_sizeOf ae,ht]
 simp only[eX]at ah;split at ah;rename_i l off hp;rw[hp]at hk;refine⟨_,ah,hk,λw hw=>?_⟩;simp[cY,aL,ad,hp,aA.c,aA.c1,agV,gj hu,AB,qq,go,add_lit];rename_i cc hp;refine⟨_,ah,trivial,λw hw=>?_⟩;simp[cY,aL,ad,hp,aA.c,aA.c1,agV,gj hu,AB,qq,go]
 grind
theorem Xn(am:cJ n β L e a){i:e3}(aL:J.op= .indexAddr t x i)(hu:P.underlying t=some (.slice el))(av:iP P el=true)(ah:eX (.dX (ir P el) (bK x) (bK i)) e L h V):∃bx,V bx/\bx.ok L/\Yields P J a β L h bx:=by
 have ad:=am.eval x;have ag:=am.eval i;have hk:=am.qY x;obtain⟨o,ae⟩:=x5 av;rw[x6 ae]at ah;simp only[eX]at ah;split at ah;rename_i A m cap z hp aq;obtain⟨cc,rfl,ai,h1,k⟩:=ah;refine⟨_,k,trivial,λw hw=>?_⟩;simp[cY,aL,ad,ag,hp,aq,aA.c,aA.c1,BG,gj hu,B1,run_sizeOf ae,ai,h1];rename_i l off m cap z hp aq;obtain⟨ai,h1,k⟩:=ah;rw[hp]at hk;refine⟨_,k,hk,λw hw=>?_⟩;simp[cY,aL,ad,ag,hp,aq,aA.c,aA.c1,BG,gj hu,B1,run_sizeOf ae,ai,h1,add_lit];rename_i A m cap z hp aq;obtain⟨cc,rfl,ai,h1,k⟩:=ah;refine⟨_,k,trivial,λw hw=>?_⟩;simp[cY,aL,ad,ag,hp,aq,aA.c,aA.c1,BG,gj hu,B1,run_sizeOf ae,ai,h1];rename_i l off m cap z hp aq;obtain⟨ai,h1,k⟩:=ah;rw[hp]at hk;refine⟨_,k,hk,λw hw=>?_⟩;simp[cY,aL,ad,ag,hp,aq,aA.c,aA.c1,BG,gj hu,B1,run_sizeOf ae,ai,h1,add_lit]
 grind
theorem Xo(am:cJ n β L e a){m:Nat}{i:e3}(aL:J.op= .indexAddr t x i)(hu:P.underlying t=some (.array m el))(av:iP P el=true)(ah:eX (.LO m (ir P el) (bK x) (bK i)) e L h V):∃bx,V bx/\bx.ok L/\Yields P J a β L h bx:=by
 have ad:=am.eval x;have ag:=am.eval i;have hk:=am.qY x;obtain⟨o,ae⟩:=x5 av;rw[x6 ae]at ah;simp only[eX]at ah;split at ah;rename_i cc z hp aq;obtain⟨ai,h1,k⟩:=Xe ah;rw[aq]at ag;rw[hp]at ad;have ag:a.eval i= .int .i64 z:=ag;refine⟨_,k,trivial,λw hw=>?_⟩;simp[cY,aL,ad,ag,aA.c,aA.c1,BG,qq,gj hu,B1,run_sizeOf ae,ai,h1];rename_i l off z hp aq;obtain⟨ai,h1,k⟩:=Xe ah;rw[hp]at hk;rw[aq]at ag;rw[hp]at ad;have ag:a.eval i= .int .i64 z:=ag;refine⟨_,k,hk,λw hw=>?_⟩;simp[cY,aL,ad,ag,aA.c,aA.c1,BG,qq,gj hu,B1,run_sizeOf ae,ai,h1,add_lit];rename_i cc fL hp aq;split at ah;rename_i z aY;obtain⟨ai,h1,k⟩:=ah;rw[aY]at ag;refine⟨_,k,trivial,λw hw=>?_⟩;simp[cY,aL,ad,ag,hp,aA.c,aA.c1,BG,qq,gj hu,B1,run_sizeOf ae,ai,h1];rename_i z aY;obtain⟨ai,h1,k⟩:=ah;rw[aY]at ag;refine⟨_,k,trivial,λw hw=>?_⟩;simp[cY,aL,ad,ag,hp,aA.c,aA.c1,BG,qq,gj hu,B1,run_sizeOf ae,ai,h1]
 grind
 grind
theorem Xp(am:cJ n β L e a)(aL:J.op= .call {callee:=.builtin .len,args:=#[x],argTypes:=#[t]})(hu:P.underlying t=some (.slice el))(ah:eX (.len t (bK x)) e L h V):∃bx,V bx/\bx.ok L/\Yields P J a β L h bx:=by
 have ad:=am.eval x;simp only[eX]at ah;split at ah;rename_i A m cap hp;exact⟨_,ah,trivial,λw hw=>by simp[cY,aL,zx,invoke,builtin,ad,hp,aA.c,aA.c1,Un,gj hu,goInt]⟩;rename_i l off m cap hp;exact⟨_,ah,trivial,λw hw=>by simp[cY,aL,zx,invoke,builtin,ad,hp,aA.c,aA.c1,Un,gj hu,goInt]⟩
 grind
theorem Xw(am:cJ n β L e a)(aL:J.op= .call {callee:=.builtin .len,args:=#[x],argTypes:=#[t]})(hu:P.underlying t=some .string)(ah:eX (.M' (bK x)) e L h V):∃bx,V bx/\bx.ok L/\Yields P J a β L h bx:=by
 have ad:=am.eval x;simp only[eX]at ah;split at ah;rename_i s hp;exact⟨_,ah,trivial,λw hw=>by simp[cY,aL,zx,invoke,builtin,ad,hp,aA.c,aA.c1,Un,gj hu,goInt]⟩
 grind
theorem akc{a b:Int}{dK:Prop}(h:KJ op a b V dK):(V (.v (.bool (Pd op a b)))/\(op= .eql\/op= .neq\/op= .lss\/op= .leq\/op= .gtr\/op= .geq))\/dK:=by
 cases op<;>first|exact .inr h|exact .inl ⟨h,by simp⟩
theorem VV{p9 p':yl}{x y:Int}:binOp op t (.int p9 x) (.int p' y)=binOp op hy (.int p9 x) (.int p' y):=by cases op<;>rfl
theorem Pv{p9 p':yl}{a b:Int}:(eqGuard op t x y (.int p9 a) (.int p' b)).run P w= .ok () w:=by
 unfold eqGuard;simp
theorem aw2{k:yl}{a b:Int}(ay:op= .eql\/op= .neq\/op= .lss\/op= .leq\/op= .gtr\/op= .geq):(binOp op t (.int k a) (.int k b)).run P w= .ok (.bool (Pd op a b)) w:=by
 rcases ay with rfl|rfl|rfl|rfl|rfl|rfl<;>simp[binOp,Op.intCmp,Pd]<;>rfl
theorem uR(am:cJ n β L e a)(aL:J.op= .binOp op t x y hy){fL:Nat}(bH:¬(op= .shr/\fL=0))(ah:eX (.tm op fL (bK x) (bK y)) e L h V):∃bx,V bx/\bx.ok L/\Yields P J a β L h bx:=by
 have ad:=am.eval x;have aQ:=am.eval y;have bin:∀{p9 p':yl}{u v:Int},a.eval x= .int p9 u->a.eval y= .int p' v->DV op p9 u p' v V->∃bx,V bx/\bx.ok L/\Yields P J a β L h bx:=λ{p9 p' u v} h1 ab⟨r,am,k⟩=>
  ⟨_,k,trivial,λw _=>by
   show(cY a.eval J).run P w= .ok (.value r) w;simp only[cY,aL,h1,ab,aDF,Pv,hd,VV (t:=t) (hy:=0),am,jR]⟩
 have cmp:∀{k:yl}{u v:Int},a.eval x= .int k u->a.eval y= .int k v->KJ op u v V (DV op k u k v V)->∃bx,V bx/\bx.ok L/\Yields P J a β L h bx:=λ{k u v} h1 ab aw=>by
  rcases akc aw with⟨bJ,bB⟩|af;exact⟨_,bJ,trivial,λw _=>by
   show(cY a.eval J).run P w= .ok (.value _) w;simp only[cY,aL,h1,ab,aDF,Pv,hd,aw2 bB,jR];rfl⟩
  grind
 have ah:Pw op ((bK x).get e) ((bK y).get e) V:=by
  cases op<;>first|exact ah|(cases fL with
   |zero=>grind
   |succ fL=>exact ah)
 unfold Pw at ah;split at ah;rename_i u v hp aq;rw[hp]at ad;rw[aq]at aQ;exact cmp ad aQ ah;rename_i u v hp aq;rw[hp]at ad;rw[aq]at aQ;exact cmp ad aQ ah;rename_i p9 u p' v _ _ hp aq;rw[hp]at ad;rw[aq]at aQ;exact bin ad aQ ah
 grind
theorem Xk(am:cJ n β L e a)(aL:J.op= .extract x i)(ah:eX (.extract (bK x) i) e L h V):∃bx,V bx/\bx.ok L/\Yields P J a β L h bx:=by
 have ad:=am.eval x;simp only[eX]at ah;split at ah;rename_i au hp;split at ah;rename_i v ag;have ea:au[i]?=some v:=by rw[pw]at ag;grind
 exact⟨_,ah,trivial,λw hw=>by simp[cY,aL,ad,hp,aA.c,aA.c1,Instr.extract,ea]⟩
 grind
 grind
end
end Go.Sx
namespace Go.Sx
open Go.RowKit
set_option maxRecDepth 100000
set_option maxHeartbeats 0
set_option linter.all false
variable {C:(Nat->Nat)->Prop}{next:Act->bb->Prop}{cs:List aA}{au xs:List ao}{b bytes c cap el i k o off q size ty:Nat}{A B:Option ar}{α:Type}{x:aA}{v z:ao}{J:b8}{aZ w:bb}{Q:fU->Act->bb->Prop}{t:fc}{f:jh}
def LE.live:LE->Bool
 |.own .. |.map .. =>true
 |.row _ _ A _ _ _=>A.isSome
 |_=>false
variable {b3:LE}
structure cb(ai:I)(aV:bb)(β:Nat->Nat)(L:List LE)(h:I)(w:bb):Prop where
 bR:jQ β L h w
 hole:∀i l,b1 L i=some l->l.live=true->h (β i)=none
 inj:∀i o l b3,b1 L i=some l->b1 L o=some b3->l.live=true->b3.live=true->β i=β o->i=o
 lt:∀i l,b1 L i=some l->l.live=true->β i<w.heap.size
 bX:∀i l,b1 L i=some l->l.live=true->ai (β i)≠none\/aV.heap.size<=β i
 os:w.os=aV.os
 tape:w.tape=aV.tape
 output:w.output=aV.output
 size:aV.heap.size<=w.heap.size
 frame:∀o,o<aV.heap.size->ai o=none->w.heap[o]?=aV.heap[o]?
 fresh:∀o,h o≠none->ai o≠none\/aV.heap.size<=o
theorem lI.lt{h:I}(x:lI h w)(ae:h o≠none):o<w.heap.size:=by
 cases e:h o with
 |none=>grind
 |some J=>
  have:=x o J e
  grind
theorem lI.out{h:I}(x:lI h w)(ae:w.heap.size<=o):h o=none:=by
 cases e:h o with
 |none=>rfl
 |some J=>have:=x.lt (o:=o) (by grind);omega
theorem tX(l:List α)(x:α)(i:Nat):b1 (l++[x]) i=if i<l.length then b1 l i else if i=l.length then some x else none:=by
 rw[pw,pw,JY]
 grind
theorem oW(l:List α)(x:α)(i o:Nat)(ag:i<l.length):b1 (fN l i x) o=if o=i then some x else b1 l o:=by
 rw[pw,Bl,pw,List.getElem?_set]
 grind
theorem atj(l:List α)(x:α)(i:Nat):(fN l i x).length=l.length:=by rw[Bl];simp
section
variable {β bS:Nat->Nat}{L bd:List LE}{h U:I}{w aZ:bb}
theorem G7(ad:x.h6 L)(af:∀i,fi L i->bS i=β i):x.c1 bS=x.c1 β:=by
 cases x<;>simp only[aA.h6]at ad<;>first|rfl|grind [aA.c1]
theorem ai'(ad:x.ok L)(af:∀i,fi L i->bS i=β i):x.c bS=x.c β:=by
 cases x with
 |a xs=>
  show Ke _=Ke _;congr 2;exact pK λy aQ=>G7 (ad y aQ) af
 |v x=>rfl
 |p i off=>exact G7 (x:=.p i off) ad af
 |s i off l c=>exact G7 (x:=.s i off l c) ad af
 |m i=>exact G7 (x:=.m i) ad af
theorem Et(ad:∀x∈cs,x.h6 L)(af:∀i,fi L i->bS i=β i):cs.map (aA.c1 bS)=cs.map (aA.c1 β):=pK λy aQ=>G7 (ad y aQ) af
theorem MO(ag:fi L i):i<L.length:=by
 obtain⟨l,al,_⟩:=ag;exact j4 al
theorem qg(x:LE)(ag:fi L i):fi (L++[x]) i:=by
 obtain⟨l,al,am⟩:=ag;exact⟨l,by rw[tX,aX (j4 al)];exact al,am⟩
theorem cJ.agree{n:Nat}{e:bY}{a:Act}(r:cJ n β L e a)(af:∀i,fi L i->bS i=β i)(hm:∀i,fi L i->fi bd i):cJ n bS bd e a:=⟨r.defers,r.size,λt=>by rw[r.env t,ai' (r.ok t) af],λt=>au0 (r.ok t) hm⟩
theorem cJ.put{n:Nat}{e:bY}{a:Act}(r:cJ n β L e a){d:Nat}(aB:d<n){x:aA}(ad:x.ok L):cJ n β L (h7 e d x) (a.put (some d) (x.c β)):=by
 refine⟨r.defers,by simp[Ug,r.size],λt=>?_,λt=>?_⟩;have aj:=r.size;by_cases av:t=d;simp_all[Ug,h7,aj,aB];have he:=r.env t;rw[zF]at he;have:gN t d=false:=by
  cases aP:gN t d with
  |true=>simp_all
  |false=>rfl
 simp only[Ug,h7,this,pR,zF,Array.getElem?_setIfInBounds]
 grind
 unfold h7;cases af:gN t d with
 |true=>exact ad
 |false=>exact r.ok t
theorem cb.push{ai:I}{aV:bb}(m:cb ai aV β L h w)(aF:de L){cells:List aA}(aw:∀x∈cells,x.h6 L)(ty:Nat):
 ∃bS,(∀i,i<L.length->bS i=β i)/\bS L.length=w.heap.size/\
  cb ai aV bS (L++[.own cells ty]) h {w with heap:=w.heap.push (.cells (cells.map (aA.c1 β)).toArray ty)}:=by
 refine⟨λi=>if i=L.length then w.heap.size else β i,λi ag=>by grind,by simp,?_⟩
 have af:∀i,fi L i->(if i=L.length then w.heap.size else β i)=β i:=λi ag=>by
  have:=MO ag
  grind
 have fS:∀i l,b1 (L++[LE.own cells ty]) i=some l->(i<L.length/\b1 L i=some l)\/(i=L.length/\l= .own cells ty):=by
  intro i l al;rw[tX]at al
  grind
 have H8:∀o:Nat,o<w.heap.size->(w.heap.push (.cells (cells.map (aA.c1 β)).toArray ty))[o]?=w.heap[o]? :=λo ae=>by
  grind
 refine⟨⟨λo J aL=>?_,λi l al=>?_⟩,λi l al ah=>?_,λi o l b3 al jL ah jZ he=>?_,λi l al ah=>?_,λi l al ah=>?_,m.os,m.tape,m.output,?_,λo ae aC=>?_,m.fresh⟩
 show(w.heap.push _)[o]?=some J
 rw[H8 o (m.bR.hw.lt (by grind))]
 exact m.bR.hw o J aL
 rcases fS i l al with⟨ag,al⟩|⟨rfl,rfl⟩
 have aj:=m.bR.bR i l al
 have iE:(if i=L.length then w.heap.size else β i)=β i:=by grind
 cases l with
 |own cs DI=>
  simp only[LE.eL]at aj⊢;rw[iE,H8 _ (m.lt i _ al rfl),Et (aF i cs DI al) af];exact aj
 |bV b=>simp only[LE.eL]at aj⊢;omega
 |row bs size A n cap xs=>
  simp only[LE.eL]at aj⊢;obtain⟨⟨h1,ab⟩,an⟩:=aj;refine⟨⟨h1,?_⟩,λg ak=>by grind⟩
  grind
 |map f k=>
  simp only[LE.eL]at aj⊢
  grind
 |gone=>trivial
 simp only[LE.eL,la]
 rw[Et aw af,Array.getElem?_push,aX rfl]
 rcases fS i l al with⟨ag,al⟩|⟨rfl,rfl⟩
 simp only[show(i=L.length)=False from by grind,k'];exact m.hole i l al ah
 simp only[la];exact m.bR.hw.out (dd _)
 rcases fS i l al with⟨ag,al⟩|⟨rfl,rfl⟩<;>rcases fS o b3 jL with⟨ae,jL⟩|⟨rfl,rfl⟩
 simp only[show(i=L.length)=False from by grind,show(o=L.length)=False from by grind,k']at he
 exact m.inj i o l b3 al jL ah jZ he
 simp only[show(i=L.length)=False from by grind,k',la]at he
 have:=m.lt i l al ah;omega
 simp only[show(o=L.length)=False from by grind,k',la]at he
 have:=m.lt o b3 jL jZ;omega
 rfl
 show _<(w.heap.push _).size
 rw[NF]
 rcases fS i l al with⟨ag,al⟩|⟨rfl,rfl⟩
 simp only[show(i=L.length)=False from by grind,k'];have:=m.lt i l al ah;omega
 simp
 rcases fS i l al with⟨ag,al⟩|⟨rfl,rfl⟩
 simp only[show(i=L.length)=False from by grind,k'];exact m.bX i l al ah
 simp only[la];exact .inr m.size
 show _<=(w.heap.push _).size
 rw[NF];have:=m.size;omega
 show(w.heap.push _)[o]?=_
 have:=m.size
 rw[H8 o (by omega)]
 exact m.frame o ae aC
theorem de.push(aF:de L){cells:List aA}(aw:∀x∈cells,x.h6 L)(ty:Nat):de (L++[.own cells ty]):=by
 intro i cs t ag x ad;rw[tX]at ag;split at ag;exact yz (aF i cs t ag x ad) λi=>qg _;split at ag;injection ag with ag;injection ag with h1 ab;subst h1;exact yz (aw x ad) λi=>qg _
 grind
theorem S6(cells:List aA)(ty:Nat):fi (L++[.own cells ty]) L.length:=⟨.own cells ty,by rw[tX];simp,rfl⟩
def wr(w:bb)(b ty:Nat)(cs:List ao):bb:={w with heap:=w.heap.setIfInBounds b (.cells cs.toArray ty (0,0))}
theorem af4(w:bb)(b ty:Nat)(cs:List ao)(o:Nat):(wr w b ty cs).heap[o]?=if b=o then(if b<w.heap.size then some (.cells cs.toArray ty (0,0))else none)else w.heap[o]? :=by
 grind [wr]
theorem np(w:bb)(cs:List ao)(ae:o≠b):(wr w b ty cs).heap[o]?=w.heap[o]? :=by rw[af4,aE (Ne.symm ae)]
theorem JF(w:bb)(cs:List ao)(af:b<w.heap.size):(wr w b ty cs).heap[b]?=some (.cells cs.toArray ty (0,0)):=by rw[af4,aX rfl,aX af]
theorem Nu(w:bb)(b ty:Nat)(cs:List ao):(wr w b ty cs).heap.size=w.heap.size:=by simp[wr]
theorem adh{α:Type}:∀(off:Nat)(l:List α)(y:α)(aN r:List α),over l off (y::aN)=some r->off<l.length/\over (l.set off y) (off+1) aN=some r
 |0,[],y,aN,r,h=>by grind [over]
 |0,x::l,y,aN,r,h=>by
  grind [over]
 |off+1,[],y,aN,r,h=>by grind [over]
 |off+1,x::l,y,aN,r,h=>by
  simp only[over]at h;split at h;rename_i cT am;injection h with h;subst h;obtain⟨a,b⟩:=adh off l y aN cT am;simp_all[over,b]
  grind
theorem SE{α:Type}:∀(off:Nat)(l r:List α),over l off []=some r->r=l
 |0,l,r,h=>by grind [over]
 |off+1,[],r,h=>by grind [over]
 |off+1,x::l,r,h=>by
  simp only[over]at h;split at h;rename_i cT am;injection h with h;subst h;rw[SE off l cT am]
  grind
theorem axt{w:bb}{cs:List ao}(af:w.heap[b]?=some (.cells cs.toArray ty (0,0)))(v:ao):w.setCell ⟨b,off,none⟩ v=wr w b ty (cs.set off v):=by
 have di:b<w.heap.size:=(tb.1 af).1;have ak:w.heap[b]= .cells cs.toArray ty (0,0):=by
  grind
 simp only[World.setCell,wr];congr 1
 grind
theorem Tl{P:dW}{b ty:Nat}:∀(au:List ao)(w:bb)(cs gQ:List ao)(off i:Nat),w.heap[b]?=some (.cells cs.toArray ty (0,0))->(∀u∈au,u.oneCell'=true)->over cs (off+i) au=some gQ->(ae2 ⟨b,off,none⟩ au i).run P w= .ok () (if au=[]then w else wr w b ty gQ)
 |[],w,cs,gQ,off,i,_,_,_=>by rfl
 |v::au,w,cs,gQ,off,i,af,h1,aL=>by
  obtain⟨di,ZJ⟩:=adh _ _ _ _ _ aL;have tC:b<w.heap.size:=(tb.1 af).1;have aw:w.cell? ((ou b off none).add i)=some cs[off+i]:=by
   rw[add_lit];simp[OK,af,di]
  have az:w.frozen? ((ou b off none).add i)=false:=by
   rw[add_lit];simp[World.frozen?,af]
  simp only[ae2,aDF,run_store P w _ v _ (h1 v (by simp)),aw,az,uh,k',hd];rw[add_lit,axt af,Tl au _ (cs.set (off+i) v) gQ off (i+1) (JF w _ tC) (λu hu=>h1 u (by simp[hu])) (by omega)];rw[aE (show¬(v::au=[])from by simp)];split;rename_i ah;subst ah;rw[SE _ _ _ ZJ];simp[wr]
theorem MX{P:dW}(av:iP P t=true){w:bb}{cs gQ:List ao}(al:v.cells.toList.length=ir P t)(af:w.heap[b]?=some (.cells cs.toArray ty (0,0)))(h1:∀u∈v.cells.toList,u.oneCell'=true)(aL:over cs off v.cells.toList=some gQ):(aCb t ⟨b,off,none⟩ v).run P w= .ok () (wr w b ty gQ):=by
 obtain⟨i,ag⟩:=x5 av;have aj:v.cells.size=i.size:=by rw[<-x6 ag,<-al];simp
 have tC:b<w.heap.size:=(tb.1 af).1;simp only[aCb,aDF,run_sizeOf ag,hd,aj,ne_eq,not_true_eq_false,k'];rw[Tl v.cells.toList w cs gQ off 0 af h1 aL];split;rename_i ah;rw[ah]at aL;rw[SE _ _ _ aL];congr 1;unfold wr;have:w.heap.setIfInBounds b (.cells cs.toArray ty (0,0))=w.heap:=by
  grind
 rw[this];rfl
theorem Ko(ad:cellsOf x=some cs):(x.c β).cells.toList=cs.map (aA.c1 β):=by
 cases x with
 |a xs=>injection ad with ad;grind [aA.c,Value.cells]
 |v y=>
  cases y with
  |agg aLT=>
   injection ad with ad;subst ad;show aLT.toList=_;rw[B7]
  |tuple aLT=>cases ad
  |_=>injection ad with ad;subst ad;rfl
 |_=>injection ad with ad;subst ad;rfl
theorem ac1(ad:FO cs=true):∀u∈cs.map (aA.c1 β),u.oneCell'=true:=by
 induction cs with
 |nil=>simp
 |cons x l bE=>
  simp only[FO,fY]at ad;intro u hu;simp only[eO,List.mem_cons]at hu;rcases hu with rfl|hu;cases x with
  |v y=>cases y<;>first|rfl|grind [one]
  |a xs=>grind [one]
  |_=>rfl
  grind
theorem I4{α aAi:Type}(f:α->aAi):∀(off:Nat)(l aN r:List α),over l off aN=some r->over (l.map f) off (aN.map f)=some (r.map f)
 |0,l,[],r,h=>by grind [over]
 |0,[],y::aN,r,h=>by grind [over]
 |0,x::l,y::aN,r,h=>by
  simp only[over]at h;split at h;rename_i cT am;injection h with h;subst h;simp[over,I4 f 0 l aN cT am]
  grind
 |off+1,[],aN,r,h=>by grind [over]
 |off+1,x::l,aN,r,h=>by
  simp only[over]at h;split at h;rename_i cT am;injection h with h;subst h;simp[over,I4 f off l aN cT am]
  grind
theorem SC{l aN r:List α}(aL:over l off aN=some r){x:α}(ad:x∈r):x∈l\/x∈aN:=by
 obtain⟨_,_,an⟩:=I3 _ _ _ _ aL;obtain⟨o,ae⟩:=List.mem_iff_getElem?.1 ad
 grind
theorem cb.write{ai:I}{aV:bb}(m:cb ai aV β L h w){l:LE}(ag:b1 L i=some l)(ah:l.live=true)(jZ:b3.live=true)(am:l.isRow=b3.isRow){cs:List ao}(aj:b3.eL β i (wr w (β i) ty cs)):cb ai aV β (fN L i b3) h (wr w (β i) ty cs)/\(∀o,fi L o->fi (fN L i b3) o):=by
 have di:=j4 ag;have qN:=m.lt i l ag ah;have fS:∀o k,b1 (fN L i b3) o=some k->(o=i/\k=b3)\/(o≠i/\b1 L o=some k):=by
  intro o k hk;rw[oW _ _ _ _ di]at hk
  grind
 have bH:∀o k,o≠i->b1 L o=some k->k.live=true->β o≠β i:=λo k ae hk fD e=>ae (m.inj o i k l hk ag fD ah e);refine⟨⟨⟨λo J aL=>?_,λo k hk=>?_⟩,λo k hk fD=>?_,λo nI k e1 hk br fD yX he=>?_,λo k hk fD=>?_,λo k hk fD=>?_,m.os,m.tape,m.output,by rw[Nu];exact m.size,λo ae aC=>?_,m.fresh⟩,λo ae=>?_⟩;have anL:o≠β i:=λe=>by rw[e,m.hole i l ag ah]at aL;cases aL
 rw[np w cs anL];exact m.bR.hw o J aL;rcases fS o k hk with⟨rfl,rfl⟩|⟨ae,hk⟩;omega;have CW:=m.bR.bR o k hk;cases k with
 |own gQ DI=>simp only[LE.eL]at CW⊢;rw[np w cs (bH o _ ae hk rfl)];exact CW
 |bV b=>exact CW
 |row bs size A n cap xs=>
  simp only[LE.eL]at CW⊢;obtain⟨⟨h1,ab⟩,an⟩:=CW;refine⟨⟨h1,?_⟩,an⟩;rcases ab with ab|⟨g,c,a8,aJ,aI,ck,eE⟩
  grind
  injection aJ with aJ pa pT;have ak:=an _ aJ;subst aJ;exact .inr ⟨g,c,a8,by rw[pT],aI,by rw[np w cs (by have:=bH o _ ae hk rfl;grind)];exact ck,eE⟩
 |map f e1=>simp only[LE.eL]at CW⊢;rw[np w cs (bH o _ ae hk rfl)];exact CW
 |gone=>trivial
 rcases fS o k hk with⟨rfl,rfl⟩|⟨ae,hk⟩;exact m.hole o l ag ah;exact m.hole o k hk fD;rcases fS o k hk with⟨aM,aD⟩|⟨aM,aD⟩<;>rcases fS nI e1 br with⟨bj,bT⟩|⟨bj,bT⟩;omega
 grind
 grind
 exact m.inj _ _ _ _ aD bT fD yX he;rw[Nu];rcases fS o k hk with⟨rfl,rfl⟩|⟨ae,hk⟩;omega;exact m.lt o k hk fD;rcases fS o k hk with⟨rfl,rfl⟩|⟨ae,hk⟩;exact m.bX _ l ag ah;exact m.bX o k hk fD;by_cases e:o=β i;subst e;rcases m.bX i l ag ah with e|e
 grind
 omega;rw[np w cs e];exact m.frame o ae aC;obtain⟨k,hk,CJ⟩:=ae;by_cases e:o=i;subst e;rw[ag]at hk;injection hk with hk;subst hk;exact⟨b3,by rw[oW _ _ _ _ di,aX rfl],by grind⟩;exact⟨k,by rw[oW _ _ _ _ di,aE e];exact hk,CJ⟩
theorem de.aeB(aF:de L)(ag:i<L.length)(hm:∀o,fi L o->fi (fN L i (.own cs ty)) o)(aw:∀x∈cs,x.h6 L):de (fN L i (.own cs ty)):=by
 intro o gQ t ae x ad;rw[oW _ _ _ _ ag]at ae;split at ae;injection ae with ae;injection ae with h1 ab;subst h1;exact yz (aw x ad) hm;exact yz (aF o gQ t ae x ad) hm
end
abbrev eN:=bY->List LE->I->Prop
variable {K:eN}
def gn(n:Nat)(d:Option Nat)(x:aA)(e:bY)(L:List LE)(h:I)(K:eN):Prop:=
 match d with
 |some d=>bif GR d n then K (h7 e d x) L h else False
 |none=>K e L h
def Hs:Nat->(Nat->Prop)->Prop
 |0,K=>K 0
 |n+1,K=>Hs n λm=>K (m+1)
theorem Cl:∀(n:Nat)(K:Nat->Prop),Hs n K=K n
 |0,_=>rfl
 |n+1,K=>Cl n λm=>K (m+1)
def Ck:List LE->(List LE->Prop)->Prop
 |[],K=>K []
 |l::r,K=>Ck r λr=>K (l::r)
theorem we:∀(L:List LE)(K:List LE->Prop),Ck L K=K L
 |[],_=>rfl
 |l::r,K=>we r λr=>K (l::r)
inductive gx(h:I)(K:Nat->Prop):Prop
 |mk (k:∀b,h b=none->K b)
def WE:Nat->List LE->Nat->Option Nat
 |0,_,_=>none
 |jA+1,L,i=>match b1 L i with
  |some (.own cs _)=>(match qf L cs with
   |some _=>some i
   |none=>(match IP L cs with
    |some o=>WE jA L o
    |none=>none))
  |_=>none
def kX:Nat->List aA->(List LE->I->Prop)->List LE->I->Prop
 |0,_,_,_,_=>False
 |jA+1,xs,K,L,h=>match IN L xs with
  |none=>K L h
  |some i=>match WE 40 L i with
   |none=>False
   |some i=>match b1 L i with
    |some (.own cs ty)=>(match qf L cs with
     |some au=>gx h λb=>Ck (fN L i (.bV b)) λL=>kX jA xs K L (h.put b (.cells au.toArray ty (0,0)))
     |none=>False)
    |_=>False
def bz(h:I)(bs size:Nat)(A:Option ar)(n cap:Nat)(xs:List ao):Prop:=xs.length=n*size/\((A=none/\n=0/\cap=0)\/∃g a8,A=some ⟨g,0,none⟩/\h g=some (.cells a8 bs (0,0))/\n<=cap/\cap<=c'/\a8.size=cap*size/\a8.toList.take (n*size)=xs)
def ei(h:I):Option ar->I
 |some g=>h.del g.block
 |none=>h
inductive e9(K:List LE->I->Prop):List LE->I->Prop
 |done {L:List LE} {h:I} (k:K L h):e9 K L h
 |bV {L:List LE} {h:I} (i bs size:Nat) (A:Option ar) (n cap:Nat) (xs:List ao) (ag:b1 L i=some (.row bs size A n cap xs))
  (k:∀U,h.le U->bz U bs size A n cap xs->(∀g,A=some g->h g.block=none)->e9 K (fN L i .gone) U):e9 K L h
 |abs {L:List LE} {h:I} (bs size:Nat) (A:Option ar) (n cap:Nat) (xs:List ao) (am:bz h bs size A n cap xs)
  (k:e9 K (L++[.row bs size A n cap xs]) (ei h A)):e9 K L h
inductive agB(P:dW)(f:jh)(args:Array ao)(L:List LE)(h:I)(K:ao->List LE->I->Prop):Prop
 |mk (Q:ao->I->Prop) (aw:Fn P f args h Q) (k:∀v U,Q v U->K v L U)
 |kU (Q:ao->I->Prop) (aw:Fn P f args h Q) (k:∀v U,Q v U->e9 (K v) L U)
inductive Gv(P:dW)(f:jh)(args:Array ao)(K:ao->List LE->I->Prop):List LE->I->Prop
 |mk {L:List LE} {h:I} (Q:ao->I->Prop) (aw:Fn P f args h Q) (cu:∀v U,Q v U->h.le U) (k:∀v U,Q v U->K v L U):Gv P f args K L h
 |bV {L:List LE} {h:I} (i bs size:Nat) (A:Option ar) (n cap:Nat) (xs:List ao) (ag:b1 L i=some (.row bs size A n cap xs))
  (k:∀U,h.le U->bz U bs size A n cap xs->(∀g,A=some g->h g.block=none)->Gv P f args K (fN L i .gone) U):Gv P f args K L h
inductive agC(P:dW)(f:jh)(args:Array ao)(h:I)(K:ao->I->Prop):Prop
 |mk (Q:ao->I->Prop) (aw:Fn P f args h Q) (k:∀v U,Q v U->K v U)
inductive Gx(L:List LE)(h:I)(a:ar)(au:List ao)(K:List LE->I->Prop):Prop
 |hp (b off ty:Nat) (cs gQ:List ao) (a6:a=⟨b,off,none⟩) (af:h b=some (.cells cs.toArray ty (0,0))) (aL:over cs off au=some gQ) (k:K L (h.put b (.cells gQ.toArray ty (0,0))))
 |row (i bs size:Nat) (g:ar) (n cap:Nat) (xs mG:List ao) (o:Nat) (ag:b1 L i=some (.row bs size (some g) n cap xs)) (a6:a=g.add o) (aL:over xs o au=some mG)
  (k:K (fN L i (.row bs size (some g) n cap mG)) h)
inductive Src(L:List LE)(h:I)(size:Nat)(B:Option ar)(m:Nat):List ao->Prop
 |nil (hm:m=0):Src L h size B m []
 |hp (b:ar) (au:List ao) (bW:B=some b) (al:au.length=m*size) (aw:∀o v,au[o]?=some v->h.cell? (b.add o)=some v):Src L h size B m au
inductive fQ(bs size bytes:Nat)(A:Option ar)(n cap m:Nat)(S:List ao->Prop)(L:List LE)(K:aA->List LE->Prop):Prop
 |cR (i:Nat) (xs au:List ao) (ag:b1 L i=some (.row bs size A n cap xs)) (aj:S au) (h1:∀u∈au,u.oneCell'=true) (hm:n+m<=c') (af:(n+m)*bytes<=140737488355328)
  (k:∀bA c4,(bA=none↔A=none/\m=0)/\n+m<=c4->K (.v (.slice bA (n+m) c4)) (fN L i (.row bs size bA (n+m) c4 (xs++au))))
 |fresh (au:List ao) (aO:A=none) (aC:n=0) (yR:cap=0) (aj:S au) (h1:∀u∈au,u.oneCell'=true) (hm:m<=c') (af:m*bytes<=140737488355328)
  (k:∀bA c4,(bA=none↔m=0)/\m<=c4->K (.v (.slice bA m c4)) (L++[.row bs size bA m c4 au]))
 |off (i b kV N iJ:Nat) (xs au:List ao) (aO:A=some ⟨b,kV,none⟩) (ag:b1 L i=some (.row bs size (some ⟨b,0,none⟩) N iJ xs)) (db:N*size=kV+n*size) (hC:n+m<=cap->iJ*size=kV+cap*size) (aj:S au) (h1:∀u∈au,u.oneCell'=true) (ai:0<m) (hm:n+m<=c') (af:(n+m)*bytes<=140737488355328)
  (bJ:n+m<=cap->K (.v (.slice A (n+m) cap)) (fN L i (.row bs size (some ⟨b,0,none⟩) (N+m) iJ (xs++au))))
  (bB:cap<n+m->∀b7 c4,n+m<=c4->K (.v (.slice (some b7) (n+m) c4)) (L++[.row bs size (some b7) (n+m) c4 (xs.drop kV++au)]))
inductive BB(bs size bytes:Nat)(A:Option ar)(n cap m:Nat)(S:List ao->Prop)(L:List LE)(h:I)(K:aA->List LE->I->Prop):Prop
 |cR (i:Nat) (xs au:List ao) (ag:b1 L i=some (.row bs size A n cap xs)) (aj:S au) (h1:∀u∈au,u.oneCell'=true) (hm:n+m<=c') (af:(n+m)*bytes<=140737488355328)
  (k:∀bA c4,(bA=none↔A=none/\m=0)/\n+m<=c4->K (.v (.slice bA (n+m) c4)) (fN L i (.row bs size bA (n+m) c4 (xs++au))) h)
 |fresh (au:List ao) (aO:A=none) (aC:n=0) (yR:cap=0) (aj:S au) (h1:∀u∈au,u.oneCell'=true) (hm:m<=c') (af:m*bytes<=140737488355328)
  (k:∀bA c4,(bA=none↔m=0)/\m<=c4->K (.v (.slice bA m c4)) (L++[.row bs size bA m c4 au]) h)
 |mem (b off:Nat) (a8 gQ au A8:List ao) (aO:A=some ⟨b,off,none⟩) (af:h b=some (.cells a8.toArray bs (0,0))) (aj:S au) (h1:∀u∈au,u.oneCell'=true) (ai:0<m) (nF:A8.length=n*size) (fS:∀o u,A8[o]?=some u->a8[off+o]?=some u)
  (aL:n+m<=cap->over a8 (off+n*size) au=some gQ) (hm:n+m<=c') (ph:(n+m)*bytes<=140737488355328)
  (bJ:n+m<=cap->K (.v (.slice A (n+m) cap)) L (h.put b (.cells gQ.toArray bs (0,0))))
  (bB:cap<n+m->∀b7 c4,n+m<=c4->K (.v (.slice (some b7) (n+m) c4)) (L++[.row bs size (some b7) (n+m) c4 (A8++au)]) h)
 |off (i b kV N iJ:Nat) (xs au:List ao) (aO:A=some ⟨b,kV,none⟩) (ag:b1 L i=some (.row bs size (some ⟨b,0,none⟩) N iJ xs)) (db:N*size=kV+n*size) (hC:n+m<=cap->iJ*size=kV+cap*size) (aj:S au) (h1:∀u∈au,u.oneCell'=true) (ai:0<m) (hm:n+m<=c') (af:(n+m)*bytes<=140737488355328)
  (bJ:n+m<=cap->K (.v (.slice A (n+m) cap)) (fN L i (.row bs size (some ⟨b,0,none⟩) (N+m) iJ (xs++au))) h)
  (bB:cap<n+m->∀b7 c4,n+m<=c4->K (.v (.slice (some b7) (n+m) c4)) (L++[.row bs size (some b7) (n+m) c4 (xs.drop kV++au)]) h)
 |rd (b off:Nat) (au A8:List ao) (aO:A=some ⟨b,off,none⟩) (aj:S au) (h1:∀u∈au,u.oneCell'=true) (ai:0<m) (nF:A8.length=n*size) (fS:∀o u,A8[o]?=some u->h.cell? ((ou b off none).add o)=some u)
  (aw:cap<n+m) (hm:n+m<=c') (ph:(n+m)*bytes<=140737488355328)
  (bB:∀b7 c4,n+m<=c4->K (.v (.slice (some b7) (n+m) c4)) (L++[.row bs size (some b7) (n+m) c4 (A8++au)]) h)
def vC(P:dW)(J:Op)(au:List ao)(w:bb)(v:ao)(aZ:bb):Prop:=∀(kF:e3->ao)(q:b8),q.op=J->J.operands.toList.map kF=au->(cY kF q).run P w= .ok (.value v) aZ
inductive UA(P:dW)(J:Op)(au:List ao)(h:I)(K:ao->I->Prop):Prop
 |mk (v:ao) (ad:∀w,lI h w->vC P J au w v w) (k:K v h)
 |put (v:ao) (b:Nat) (x y:Obj) (af:h b=some x) (ad:∀w,lI h w->vC P J au w v {w with heap:=w.heap.setIfInBounds b y}) (k:K v (h.put b y))
 |aeM (b:Nat) (x y:Obj) (af:h b=some x) (ad:∀w,lI h w->∀(kF:e3->ao)(q:b8),q.op=J->J.operands.toList.map kF=au->(cY kF q).run P w= .ok .skip {w with heap:=w.heap.setIfInBounds b y}) (k:K eU (h.put b y))
inductive agE(P:dW)(t:fc)(v:ao)(name:String)(K:jh->ao->Prop):Prop
 |mk (f:jh) (r:ao) (hm:∀w,(method (P.types.size+Made.depth) t v name).run P w= .ok (f,r) w) (k:K f r)
inductive dN(size bytes:Nat)(zero:List ao)(vA nR:Int)(K:Nat->Nat->ar->List ao->Prop):Prop
 |mk (m:Nat) (al:vA=m) (aw:nR=m) (af:m*bytes<=281474976710656) (hm:m<=9223372036854775807) (k:∀g,K m m g (rO zero.toArray (m*size)).toList)
 |one (m:Nat) (z:ao) (aY:zero=[z]) (aj:size=1) (al:vA=m) (aw:nR=m) (af:m*bytes<=281474976710656) (hm:m<=9223372036854775807) (k:∀g,K m m g (bG m z))
 |room (c:Nat) (al:vA=0) (aw:nR=c) (af:c*bytes<=281474976710656) (hm:c<=9223372036854775807) (k:∀g,K 0 c g [])
inductive agK(h:I)(b bQ:Nat)(dt:List Int)(v:ao)(K:I->Prop):Prop
 |mk (l:List gr) (b':Nat) (hm:wV h b bQ l b') (k:∀ii,K (h.put b (jE bQ (upsert l dt v b') ii)))
 |atZ (l:List gr) (b':Nat) (hm:wV h b bQ l b') (k:K (h.put b (jE bQ (upsert l dt v b') (if(iw l dt).isSome then b' else b'+1))))
inductive agJ(h:I)(b:Nat)(K:Nat->I->Prop):Prop
 |mk (es:Array zV) (b':Nat) (af:h b=some (.map es b')) (k:∀r,h r=none->K r (h.put r (.mapIter (some b) b' #[] b')))
inductive agI(h:I)(r:Nat)(K:ao->I->Prop):Prop
 |mk (aT wH gT b':Nat) (seen:Array Nat) (es:Array zV) (am:h r=some (.mapIter (some aT) wH seen gT)) (af:h aT=some (.map es b')) (fS:∀x∈es.toList,x.born<wH) (ZV:wH<=gT)
  (done:(leftOf es seen).size=0->K (.tuple #[.bool false]) h)
  (qX:∀e∈(leftOf es seen).toList,K (.tuple #[.bool true,e.key,e.val]) (h.put r (.mapIter (some aT) wH (seen.push e.born) b')))
inductive agA(h:I)(r:Nat)(K:ao->Prop):Prop
 |mk (aT wH b':Nat) (seen:Array Nat) (es:Array zV) (e:zV) (am:h r=some (.mapIter (some aT) wH (seen.push e.born) b')) (af:h aT=some (.map es b')) (he:e∈es.toList) (aC:(es.toList.map (·.born)).Nodup)
  (k:K (.tuple #[e.key,e.val]))
def Du:Nat->List ao->List aA
 |0,_=>[]
 |n+1,z=>(z.map .v)++Du n z
def zD(P:dW)(n:Nat)(f:jh)(ej:List aA)(d:Option Nat)(e:bY)(L:List LE)(h:I)(K:eN):Prop:=
 kX 40 ej (λL h=>match mY L ej with
  |some au=>e9 (λL h=>agB P f au.toArray L h λv L U=>gn n d (.v v) e L U K) L h
  |none=>False) L h
def Gi(P:dW)(n:Nat)(f:jh)(ej:List aA)(d:Option Nat)(e:bY)(L:List LE)(h:I)(K:eN):Prop:=
 match mY L ej with
 |some au=>Gv P f au.toArray (λv L U=>gn n d (.v v) e L U K) L h
 |none=>False
def Nr(P:dW)(n:Nat)(f:jh)(ej:List aA)(d:Option Nat)(e:bY)(L:List LE)(h:I)(K:eN):Prop:=
 match mY L ej with
 |some au=>agC P f au.toArray h λv U=>gn n d (.v v) e L U K
 |none=>False
def Gh(n:Nat)(bs size bytes:Nat)(A:Option ar)(m cap:Nat)(y:aA)(d:Option Nat)(e:bY)(L:List LE)(h:I)(K:eN):Prop:=
 match y with
 |.v (.slice B k _)=>fQ bs size bytes A m cap k (Src L h size B k) L λx L=>gn n d x e L h K
 |.s o off k _=>(match b1 L o with
  |some (.own cs _)=>(match sub cs off (k*size)with
   |some r=>(match qf L r with
    |some au=>fQ bs size bytes A m cap k (λl=>l=au) L λx L=>gn n d x e L h K
    |none=>False)
   |none=>False)
  |_=>False)
 |_=>False
def Gg(n:Nat)(bs size bytes:Nat)(A:Option ar)(m cap:Nat)(y:aA)(d:Option Nat)(e:bY)(L:List LE)(h:I)(K:eN):Prop:=
 match y with
 |.v (.slice B k _)=>e9 (λL h=>BB bs size bytes A m cap k (Src L h size B k) L h λx L h=>gn n d x e L h K) L h
 |.s o off k _=>(match b1 L o with
  |some (.own cs _)=>(match sub cs off (k*size)with
   |some r=>kX 40 r (λL h=>match qf L r with
    |some au=>e9 (λL h=>BB bs size bytes A m cap k (λl=>l=au) L h λx L h=>gn n d x e L h K) L h
    |none=>False) L h
   |none=>False)
  |_=>False)
 |_=>False
def fz(P:dW)(n:Nat)(k:kk)(d:Option Nat)(e:bY)(L:List LE)(h:I)(K:eN):Prop:=
 match k with
 |.alloc ty zero=>Hs L.length λi=>Ck (L++[.own (zero.map .v) ty]) λL=>gn n d (.p i 0) e L h K
 |.box ty x=>(match cellsOf (x.get e)with
  |some cs=>Hs L.length λi=>Ck (L++[.own cs ty]) λL=>gn n d (.p i 0) e L h K
  |none=>False)
 |.kq ty len size zero parts=>bif nT (len*size) 16777216 then(match yL (Du len zero) (parts.map λp=>(p.1*size,size,p.2.get e))with
  |some cs=>Hs L.length λi=>Ck (L++[.own cs ty]) λL=>gn n d (.s i 0 len len) e L h K
  |none=>False)else False
 |.store m x y=>(match cellsOf (y.get e)with
  |some cs=>bif FO cs&&gN cs.length m then
   (match x.get e with
   |.p i off=>(match b1 L i with
    |some (.own xs ty)=>(match over xs off cs with
     |some mG=>Ck (fN L i (.own mG ty)) λL=>gn n d (.v eU) e L h K
     |none=>False)
    |some (.bV b)=>kX 40 cs (λL h=>match qf L cs with
     |some au=>Gx L h ⟨b,off,none⟩ au λL h=>gn n d (.v eU) e L h K
     |none=>False) L h
    |_=>False)
   |.v (.pointer (some a))=>kX 40 cs (λL h=>match qf L cs with
    |some au=>Gx L h a au λL h=>gn n d (.v eU) e L h K
    |none=>False) L h
   |_=>False)else False
  |none=>False)
 |.set x=>force (x.get e) λx=>gn n d x e L h K
 |.yD f args=>Gi P n f (args.map (dB.get e)) d e L h K
 |.Wb f args=>Nr P n f (args.map (dB.get e)) d e L h K
 |.O6 x args=>(match x.get e with
  |.v (.func (.func f) first iz)=>Gi P n f (first.toList.map .v++(args.map (dB.get e)++iz.toList.map .v)) d e L h K
  |_=>False)
 |.fs _ bs size bytes _ x y=>(match x.get e with
  |.v (.slice A m cap)=>Gh n bs size bytes A m cap (y.get e) d e L h K
  |.s i 0 m cap=>(match b1 L i with
   |some (.own cs ty)=>bif gN cs.length (cap*size)&&nT m cap&&gN ty bs&&nT cap 9223372036854775807 then
    (match qf L cs with
    |some au=>gx h λb=>Gh n bs size bytes (some ⟨b,0,none⟩) m cap (y.get e) d e (fN L i .gone++[.row bs size (some ⟨b,0,none⟩) m cap (au.take (m*size))]) h K
    |none=>False)else False
   |_=>False)
  |_=>False)
 |.call f args=>zD P n f (args.map (dB.get e)) d e L h K
 |.yE x args=>(match x.get e with
  |.v (.func (.func f) first iz)=>zD P n f (first.toList.map .v++(args.map (dB.get e)++iz.toList.map .v)) d e L h K
  |_=>False)
 |.append _ bs size bytes _ x y=>(match x.get e with
  |.v (.slice A m cap)=>Gg n bs size bytes A m cap (y.get e) d e L h K
  |.s i 0 m cap=>(match b1 L i with
   |some (.own cs ty)=>bif gN cs.length (cap*size)&&nT m cap&&gN ty bs&&nT cap 9223372036854775807 then
    (match qf L cs with
    |some au=>gx h λb=>Gg n bs size bytes (some ⟨b,0,none⟩) m cap (y.get e) d e (fN L i .gone++[.row bs size (some ⟨b,0,none⟩) m cap (au.take (m*size))]) h K
    |none=>False)else False
   |_=>False)
  |_=>False)
 |.d7 _ bs size bytes zero l c=>(match l.get e,c.get e with
  |.v (.int .i64 vA),.v (.int .i64 nR)=>dN size bytes zero vA nR λm c g xs=>gn n d (.v (.slice (some g) m c)) e (L++[.row bs size (some g) m c xs]) h K
  |_,_=>False)
 |.Mh f iz=>kX 40 (iz.map (dB.get e)) (λL h=>match mY L (iz.map (dB.get e))with
  |some au=>gn n d (.v (.func (.func f) #[] au.toArray)) e L h K
  |none=>False) L h
 |.Mi=>gx h λb=>gn n d (.v (.map (some b))) e L (h.put b (.map #[] 0)) K
 |.Mf bQ x k v=>(match x.get e,LZ bQ (k.get e),v.get e with
  |.v (.map (some b)),some dt,.v y=>agK h b bQ dt y λh=>gn n d (.v eU) e L h K
  |_,_,_=>False)
 |.range x=>(match x.get e with
  |.v (.map (some b))=>agJ h b λr h=>gn n d (.v (.pointer (some ⟨r,0,none⟩))) e L h K
  |_=>False)
 |.next x=>(match x.get e with
  |.v (.pointer (some ⟨r,0,none⟩))=>agI h r λv h=>gn n d (.v v) e L h K
  |_=>False)
 |.entry x=>(match x.get e with
  |.v (.pointer (some ⟨r,0,none⟩))=>agA h r λv=>gn n d (.v v) e L h K
  |_=>False)
 |.invoke name x args=>(match x.get e with
  |.v (.iface t v)=>agE P t v name λf r=>zD P n f (.v r::args.map (dB.get e)) d e L h K
  |_=>False)
 |.raw J=>kX 40 (J.operands.toList.map λx=>(bK x).get e) (λL h=>match mY L (J.operands.toList.map λx=>(bK x).get e)with
  |some au=>e9 (λL h=>UA P J au h λv h=>gn n d (.v v) e L h K) L h
  |none=>False) L h
 |k=>eX k e L h λx=>gn n d x e L h K
section
variable {P:dW}{ai:I}{aV:bb}{n:Nat}{β:Nat->Nat}{L:List LE}{h:I}{e:bY}{a:Act}{w:bb}
def h4(ai:I)(aV:bb)(n:Nat)(C:(Nat->Nat)->Prop)(K:eN)(next:Act->bb->Prop):Prop:=∀β e L h a w,C β->cb ai aV β L h w->cJ n β L e a->de L->K e L h->next a w
def Any:(Nat->Nat)->Prop:=λ_=>True
theorem jd(aL:h4 ai aV n C K next)(hC:C β)(m:cb ai aV β L h w)(r:cJ n β L e a)(aF:de L){d:Option Nat}(ad:x.ok L)(hp:gn n d x e L h K):next (a.put d (x.c β)) w:=by
 cases d with
 |none=>exact aL _ _ _ _ _ _ hC m r aF hp
 |some d=>
  simp only[gn]at hp;cases af:GR d n with
  |false=>grind
  |true=>
   rw[af]at hp;have aB:d<n:=Nat.lt_of_succ_le (rh af);exact aL _ _ _ _ _ _ hC m (r.put aB ad) aF hp
theorem q4(am:(cY a.eval J).run P w= .ok (.value v) aZ)(hk:next (a.put J.dst v) aZ):J.wp P a w next Q:=by
 unfold zX;rw[am];exact hk
theorem JE(am:(cY a.eval J).run P w= .ok .skip aZ)(hk:next (a.put J.dst eU) aZ):J.wp P a w next Q:=by
 unfold zX;rw[am];exact hk
theorem F1(s:jQ β L h w)(ad:xU L x=some v):x.c1 β=v/\(∀xs,x≠.a xs):=by
 cases x with
 |v y=>injection ad with ad;exact⟨ad,λ_ e=>by cases e⟩
 |a xs=>cases ad
 |p i off=>
  simp only[xU]at ad;split at ad;rename_i b ag;injection ad with ad;subst ad;have:=s.bR i _ ag;simp only[LE.eL]at this;subst this;exact⟨rfl,λ_ e=>by cases e⟩
  grind
 |s i off l c=>
  simp only[xU]at ad;split at ad;rename_i b ag;injection ad with ad;subst ad;have:=s.bR i _ ag;simp only[LE.eL]at this;subst this;exact⟨rfl,λ_ e=>by cases e⟩
  grind
 |m i=>
  simp only[xU]at ad;split at ad;rename_i b ag;injection ad with ad;subst ad;have:=s.bR i _ ag;simp only[LE.eL]at this;subst this;exact⟨rfl,λ_ e=>by cases e⟩
  grind
theorem Bg(s:jQ β L h w):∀(cs:List aA)(au:List ao),qf L cs=some au->cs.map (aA.c1 β)=au
 |[],au,ad=>by cases ad;rfl
 |x::cs,au,ad=>by
  simp only[qf]at ad;split at ad;rename_i v r ah am;injection ad with ad;subst ad;rw[eO,(F1 s ah).1,Bg s cs r am]
  grind
theorem awi(s:jQ β L h w)(ad:raw L x=some v):x.c β=v:=by
 cases x with
 |a xs=>
  simp only[raw]at ad;split at ad;rename_i r am;injection ad with ad;subst ad;show Ke _=_;rw[Bg s xs r am]
  grind
 |v y=>simp only[raw]at ad;exact(F1 s ad).1
 |p i off=>simp only[raw]at ad;exact(F1 s (x:=.p i off) ad).1
 |s i off l c=>simp only[raw]at ad;exact(F1 s (x:=.s i off l c) ad).1
 |m i=>simp only[raw]at ad;exact(F1 s (x:=.m i) ad).1
theorem s3(s:jQ β L h w):∀(cs:List aA)(au:List ao),mY L cs=some au->cs.map (aA.c β)=au
 |[],au,ad=>by cases ad;rfl
 |x::cs,au,ad=>by
  simp only[mY]at ad;split at ad;rename_i v r ah am;injection ad with ad;subst ad;rw[eO,awi s ah,s3 s cs r am]
  grind
theorem cb.fR(m:cb ai aV β L h w){l:LE}(ag:b1 L i=some l)(ah:l.live=true)(jZ:b3.live=false)(am:b3.isRow=false)(CT:b3.eL β i w){J:Obj}(aL:w.heap[β i]?=some J):cb ai aV β (fN L i b3) (h.put (β i) J) w/\(∀o,fi L o->fi (fN L i b3) o):=by
 have di:=j4 ag;have fS:∀o k,b1 (fN L i b3) o=some k->(o=i/\k=b3)\/(o≠i/\b1 L o=some k):=by
  intro o k hk;rw[oW _ _ _ _ di]at hk
  grind
 have lZ:∀o k,b1 (fN L i b3) o=some k->k.live=true->o≠i/\b1 L o=some k:=by
  grind
 refine⟨⟨⟨λo gh ae=>?_,λo k hk=>?_⟩,λo k hk fD=>?_,λo nI k e1 hk br fD yX he=>?_,λo k hk fD=>?_,λo k hk fD=>?_,m.os,m.tape,m.output,m.size,m.frame,λo ae=>?_⟩,λo ae=>?_⟩;by_cases e:o=β i;subst e;rw[I.bP]at ae;grind;rw[I.cf _ _ e]at ae;exact m.bR.hw o gh ae;rcases fS o k hk with⟨aM,aD⟩|⟨_,hk⟩
 grind
 exact m.bR.bR o k hk;obtain⟨q,hk⟩:=lZ o k hk fD;rw[I.cf _ _ (λe=>q (m.inj o i k l hk ag fD ah e))];exact m.hole o k hk fD;exact m.inj o nI k e1 (lZ o k hk fD).2 (lZ nI e1 br yX).2 fD yX he;exact m.lt o k (lZ o k hk fD).2 fD;exact m.bX o k (lZ o k hk fD).2 fD;by_cases e:o=β i;subst e;exact m.bX i l ag ah;rw[I.cf _ _ e]at ae;exact m.fresh o ae;obtain⟨k,hk,CJ⟩:=ae;by_cases e:o=i;exact⟨b3,by rw[oW _ _ _ _ di,aX e],am⟩;exact⟨k,by rw[oW _ _ _ _ di,aE e];exact hk,CJ⟩
theorem de.nQ(aF:de L)(ag:i<L.length)(hm:∀o,fi L o->fi (fN L i b3) o)(aC:∀cs ty,b3≠.own cs ty):de (fN L i b3):=by
 intro o gQ t ae x ad;rw[oW _ _ _ _ ag]at ae;split at ae
 grind
 exact yz (aF o gQ t ae x ad) hm
theorem rV(xs:List aA){K:List LE->I->Prop}:∀(jA:Nat)(L:List LE)(h:I),cb ai aV β L h w->de L->kX jA xs K L h->∃bd U,K bd U/\cb ai aV β bd U w/\de bd/\(∀i,fi L i->fi bd i)/\bd.length=L.length
 |0,_,_,_,_,hp=>hp.elim
 |jA+1,L,h,m,aF,hp=>by
  simp only[kX]at hp;split at hp
  grind
  rename_i i aBk;split at hp
  grind
  rename_i i _;split at hp;rename_i cs ty ag;split at hp;rename_i au fh;obtain⟨k⟩:=hp;have af:=m.hole i _ ag rfl;have fg:=Bg m.bR cs au fh;have u6:=m.bR.bR i _ ag;simp only[LE.eL,fg]at u6;obtain⟨bc,et⟩:=m.fR (b3:=.bV (β i)) ag rfl rfl rfl rfl u6;obtain⟨bd,U,h1,ab,an,aR,cg⟩:=rV xs jA _ _ bc (aF.nQ (j4 ag) et (λ_ _ e=>by cases e)) (by have:=k (β i) af;rwa[we]at this);exact⟨bd,U,h1,ab,an,λo ae=>aR o (et o ae),by rw[cg,atj]⟩
  grind
  grind
theorem mZ{K:List LE->I->Prop}(hp:e9 K L h):∀β,cb ai aV β L h w->de L->∃bS bd U,K bd U/\cb ai aV bS bd U w/\de bd/\(∀i,fi L i->fi bd i)/\(∀i,fi L i->bS i=β i):=by
 induction hp with
 |done k=>grind
 | @bV L h i bs size A n cap xs ag k bE=>
  intro β m aF;have aj:=m.bR.bR i _ ag;simp only[LE.eL]at aj;obtain⟨⟨h1,ab⟩,an⟩:=aj;have di:=j4 ag;rcases ab with⟨ab,aC⟩|⟨g,c,a8,aJ,aI,ck,eE⟩;injection ab with a6 wm aw;subst a6;have et:∀o,fi L o->fi (fN L i .gone) o:=λo⟨q,aq,H9⟩=>by
   by_cases e:o=i;exact⟨.gone,by rw[oW _ _ _ _ di,aX e],rfl⟩;exact⟨q,by rw[oW _ _ _ _ di,aE e];exact aq,H9⟩
  have fS:∀o q,b1 (fN L i .gone) o=some q->q= .gone\/b1 L o=some q:=by
   intro o q aq;rw[oW _ _ _ _ di]at aq
   grind
  have lZ:∀o q,b1 (fN L i .gone) o=some q->q.live=true->b1 L o=some q:=λo q aq ah=>by
   rcases fS o q aq with rfl|aP;cases ah;omega
  have bc:cb ai aV β (fN L i .gone) h w:=⟨⟨m.bR.hw,λo q aq=>by
   rcases fS o q aq with rfl|aP;trivial;exact m.bR.bR o q aP⟩,λo q aq ah=>m.hole o q (lZ o q aq ah) ah,λo nI q l5 aq p5 ah jZ=>m.inj o nI q l5 (lZ o q aq ah) (lZ nI l5 p5 jZ) ah jZ,λo q aq ah=>m.lt o q (lZ o q aq ah) ah,
   λo q aq ah=>m.bX o q (lZ o q aq ah) ah,m.os,m.tape,m.output,m.size,m.frame,m.fresh⟩
  obtain⟨bS,bd,U,bJ,bB,eo,oa,mu⟩:=bE h (I.le_refl h) ⟨h1,.inl ⟨rfl,aC,aw⟩⟩ (λg e=>by cases e) β bc (aF.nQ di et (λ_ _ e=>by cases e))
  grind
  injection aJ with aJ pa pT;subst aJ;subst pT;have ak:=an _ rfl;simp only at ak;have su:=m.hole i _ ag rfl;rw[<-ak]at su;obtain⟨bc,et⟩:=m.fR (b3:=.gone) ag rfl rfl rfl trivial (by rw[<-ak];exact ck);rw[<-ak]at bc;obtain⟨bS,bd,U,bJ,bB,eo,oa,mu⟩:=bE (h.put g (.cells a8 bs (0,0))) (I.du su) ⟨h1,.inr ⟨g,a8,rfl,I.bP _ _ _,eE.1,eE.2.1,eE.2.2.1,eE.2.2.2⟩⟩ (λb7 e=>by grind) β bc (aF.nQ di et (λ_ _ e=>by cases e))
  grind
 | @abs L h bs size A n cap xs am k bE=>
  intro β m aF;obtain⟨h1,ab⟩:=am;have hblk:∃b,(∀g,A=some g->g.block=b):=by
   cases A with
   |none=>simp
   |some g=>simp
  obtain⟨b,af⟩:=hblk;have EZ:∀o,(∀g,A=some g->o≠g.block)->ei h A o=h o:=λo ae=>by
   cases A with
   |none=>rfl
   |some g=>exact I.lP h (ae g rfl)
  have Y7:(ei h A).le h:=by
   cases A with
   |none=>exact I.le_refl h
   |some g=>exact I.WG h _
  have QY:∀g,A=some g->h g.block≠none:=λg e=>by
   grind
  have fS:∀i l,b1 (L++[LE.row bs size A n cap xs]) i=some l->(i<L.length/\b1 L i=some l)\/(i=L.length/\l= .row bs size A n cap xs):=by
   intro i l al;rw[tX]at al
   grind
  have iE:∀i,i<L.length->(if i=L.length then b else β i)=β i:=λi ag=>by grind
  have Ii:∀i,fi L i->(if i=L.length then b else β i)=β i:=λi ag=>iE i (MO ag);have bH:∀i l,b1 L i=some l->l.live=true->∀g,A=some g->β i≠g.block:=λi l al ah g e he=>by
   have:=m.hole i l al ah
   grind
  have bc:cb ai aV (λi=>if i=L.length then b else β i) (L++[.row bs size A n cap xs]) (ei h A) w:=by
   refine⟨⟨m.bR.hw.mono Y7,λi l al=>?_⟩,λi l al ah=>?_,λi o l b3 al jL ah jZ he=>?_,λi l al ah=>?_,λi l al ah=>?_,m.os,m.tape,m.output,m.size,m.frame,λo ae=>?_⟩;rcases fS i l al with⟨ag,al⟩|⟨rfl,rfl⟩;have aj:=m.bR.bR i l al;cases l with
   |own cs DI=>simp only[LE.eL]at aj⊢;rw[iE i ag,Et (aF i cs DI al) Ii];exact aj
   |bV eP=>grind [LE.eL]
   |row=>grind [LE.eL]
   |map f k=>grind [LE.eL]
   |gone=>trivial
   simp only[LE.eL,la];refine⟨⟨h1,?_⟩,af⟩;rcases ab with⟨rfl,rfl,rfl⟩|⟨g,a8,rfl,aD,bj,bT,dz,j6⟩;simp;exact .inr ⟨g,cap,a8,rfl,cO _,m.bR.hw _ _ aD,bj,bT,dz,j6⟩;rcases fS i l al with⟨ag,al⟩|⟨rfl,rfl⟩;rw[iE i ag,EZ _ (bH i l al ah)];exact m.hole i l al ah;simp only[la];cases A with
   |none=>cases ah
   |some g=>rw[<-af g rfl];exact I.Ev h _
   rcases fS i l al with⟨ag,q⟩|⟨aM,q⟩<;>rcases fS o b3 jL with⟨ae,l5⟩|⟨FY,l5⟩;rw[iE i ag,iE o ae]at he;exact m.inj i o l b3 q l5 ah jZ he;rw[iE i ag,aX FY]at he;subst l5;cases A with
   |none=>cases jZ
   |some g=>grind
   rw[iE o ae,aX aM]at he;subst q;cases A with
   |none=>cases ah
   |some g=>grind
   omega;rcases fS i l al with⟨ag,al⟩|⟨rfl,rfl⟩;rw[iE i ag];exact m.lt i l al ah;simp only[la];cases A with
   |none=>cases ah
   |some g=>rw[<-af g rfl];exact m.bR.hw.lt (QY g rfl)
   rcases fS i l al with⟨ag,al⟩|⟨rfl,rfl⟩;rw[iE i ag];exact m.bX i l al ah;simp only[la];cases A with
   |none=>cases ah
   |some g=>rw[<-af g rfl];exact m.fresh _ (QY g rfl)
   refine m.fresh o λe=>ae ?_
   grind
  have ef:de (L++[.row bs size A n cap xs]):=by
   intro i cs t ag x ad;rcases fS i _ ag with⟨_,ag⟩|⟨_,ag⟩;exact yz (aF i cs t ag x ad) λi=>qg _
   grind
  obtain⟨bS,bd,U,bJ,bB,eo,oa,mu⟩:=bE _ bc ef;exact⟨bS,bd,U,bJ,bB,eo,λo ae=>oa o (qg _ ae),λo ae=>by rw[mu o (qg _ ae)];grind⟩
end
section
variable {P:dW}{ai:I}{aV:bb}{n:Nat}{β:Nat->Nat}{L:List LE}{h:I}{e:bY}{a:Act}{w:bb}
theorem azZ{V:aA->Prop}(s:jQ β L h w)(ad:∃bx,V bx/\bx.ok L/\Yields P J a β L h bx)(hk:∀bx,bx.ok L->V bx->next (a.put J.dst (bx.c β)) w):J.wp P a w next Q:=by
 obtain⟨bx,h1,ab,an⟩:=ad;exact q4 (an w s) (hk bx ab h1)
theorem Sf(hC:∀bS,(∀i,i<L.length->bS i=β i)->C bS)(aL:h4 ai aV n C K next)(m:cb ai aV β L h w)(r:cJ n β L e a)(aF:de L){cells:List aA}(aw:∀x∈cells,x.h6 L){bx:aA}(CY:∀bS,bS L.length=w.heap.size->(cY a.eval J).run P w= .ok (.value (bx.c bS)) {w with heap:=w.heap.push (.cells (cells.map (aA.c1 β)).toArray ty)})(dk:bx.ok (L++[.own cells ty]))(hp:gn n J.dst bx e (L++[.own cells ty]) h K):J.wp P a w next Q:=by
 obtain⟨bS,bL,cy,bc⟩:=m.push aF aw ty;exact q4 (CY bS cy) (jd aL (hC bS bL) bc (r.agree (λi ag=>bL i (MO ag)) (λi=>qg _)) (aF.push aw ty) dk hp)
theorem FN(aG:List ao):∀x∈aG.map aA.v,x.h6 L:=by
 intro x ad;obtain⟨v,_,rfl⟩:=dn.1 ad;trivial
theorem Xx{i:BY}(ay:J.op= .alloc t)(ag:P.info? t=some i)(aY:i.zero=some z)(hC:∀bS,(∀i,i<L.length->bS i=β i)->C bS)(aL:h4 ai aV n C K next)(m:cb ai aV β L h w)(r:cJ n β L e a)(aF:de L)(hp:fz P n (.alloc t z.cells.toList) J.dst e L h K):J.wp P a w next Q:=by
 simp only[fz,Cl,we]at hp;refine Sf hC aL m r aF (cells:=z.cells.toList.map .v) (ty:=t) (FN _) (bx:=.p L.length 0) (λbS af=>?_) (S6 _ _) hp;rw[B7];simp[cY,ay,Instr.alloc,zeroValue,Bq,ag,aY,newVar,newRow,aA.c,aA.c1,af]
theorem Kp(ad:cellsOf x=some cs)(hk:x.ok L):∀y∈cs,y.h6 L:=by
 cases x with
 |a xs=>injection ad with ad;subst ad;exact hk
 |v y=>
  cases y with
  |agg aLT=>injection ad with ad;subst ad;exact FN _
  |tuple aLT=>cases ad
  |_=>injection ad with ad;subst ad;intro y aQ;rw[fx.1 aQ];trivial
 |_=>injection ad with ad;subst ad;intro y aQ;rw[fx.1 aQ];exact hk
theorem Xy{x:e3}(ay:J.op= .box t x)(hC:∀bS,(∀i,i<L.length->bS i=β i)->C bS)(aL:h4 ai aV n C K next)(m:cb ai aV β L h w)(r:cJ n β L e a)(aF:de L)(hp:fz P n (.box t (bK x)) J.dst e L h K):J.wp P a w next Q:=by
 simp only[fz,Cl,we]at hp;split at hp;rename_i cs fg;refine Sf hC aL m r aF (cells:=cs) (ty:=t) (Kp fg (r.qY x)) (bx:=.p L.length 0) (λbS af=>?_) (S6 _ _) hp;have:=Ko (β:=β) fg;simp[cY,ay,r.eval x,Instr.box,newVar,newRow,aA.c1,aA.c,af,<-this]
 grind
theorem ad0:∀(k:Nat)(z:List ao),(Du k z).map (aA.c1 β)=(bG k z).flatten
 |0,z=>rfl
 |k+1,z=>by rw[Du,fm,B7,ad0 k z,GO,qr]
theorem ad1:∀(k:Nat)(z:List ao),∀x∈Du k z,x.h6 L
 |0,z,x,ad=>by cases ad
 |k+1,z,x,ad=>by
  simp only[Du,List.mem_append]at ad;rcases ad with ad|ad;exact FN _ x ad;exact ad1 k z x ad
theorem Yb:∀(aN:List ao)(cs:Array ao)(off k:Nat),off+k+aN.length<=cs.size->((aN.zipIdx k).foldl (λcs(x:ao×Nat)=>cs.setIfInBounds (off+x.2) x.1) cs).toList=cs.toList.take (off+k)++aN++cs.toList.drop (off+k+aN.length)
 |[],cs,off,k,h=>by simp
 |y::aN,cs,off,k,h=>by
  simp only[List.zipIdx_cons,List.foldl_cons];rw[Yb aN _ off (k+1) (by grind)];simp only[Array.toList_setIfInBounds,gI]at h⊢;have hk:off+k<cs.toList.length:=by grind
  rw[show off+(k+1)=off+k+1 by omega,List.take_set,List.drop_set,aX (by omega)];rw[List.set_eq_take_append_cons_drop]
  grind
theorem SF{α:Type}:∀(off:Nat)(l aN r:List α),over l off aN=some r->r=l.take off++aN++l.drop (off+aN.length)
 |0,l,[],r,h=>by grind [over]
 |0,[],y::aN,r,h=>by grind [over]
 |0,x::l,y::aN,r,h=>by
  simp only[over]at h;split at h;rename_i cT am;injection h with h;subst h;have:=SF 0 l aN cT am
  grind
  grind
 |off+1,[],aN,r,h=>by grind [over]
 |off+1,x::l,aN,r,h=>by
  simp only[over]at h;split at h;rename_i cT am;injection h with h;subst h;have:=SF off l aN cT am
  grind
  grind
theorem KO{T:Type}(place:Nat->Option (Nat×Nat))(f:T->Nat×aA)(g:T->Nat×Nat×aA):∀(xs:List T)(cs r:List aA),(∀x∈xs,place (f x).1=some ((g x).1,(g x).2.1)/\(f x).2=(g x).2.2)->yL cs (xs.map g)=some r->UI place (cs.map (aA.c1 β)).toArray (xs.map λx=>((f x).1,(f x).2.c β))=some (r.map (aA.c1 β)).toArray
 |[],cs,r,az,aj=>by
  grind [yL,UI]
 |p::be,cs,r,az,aj=>by
  obtain⟨g1,g2⟩:=az p (iU ..);have ab:=λx ad=>az x (List.mem_cons_of_mem p ad);rw[eO]at aj;generalize aq:g p=q at aj g1 g2;obtain⟨off,size,x⟩:=q;simp only[yL]at aj;split at aj;rename_i aN Fg;cases af:gN aN.length size with
  |false=>grind
  |true=>
   rw[af]at aj;simp only[lv]at aj;split at aj;rename_i gQ Le;have al:aN.length=size:=mJ af;have aw:=Ko (β:=β) Fg;simp only at g1 g2;have eb:=I3 _ _ _ _ Le;have ht:((f p).2.c β).cells.size=size:=by simp[g2,<-al,<-Array.length_toList,aw]
   simp only[eO,UI,g1];rw[aE (by
    grind)]
   rw[g2,show((x.c β).cells.zipIdx).foldl (λcs(x:ao×Nat)=>cs.setIfInBounds (off+x.2) x.1) (cs.map (aA.c1 β)).toArray=(gQ.map (aA.c1 β)).toArray from ?_];exact KO place f g be gQ r ab aj;apply r6;rw[<-Array.foldl_toList,Array.toList_zipIdx,aw];rw[Yb _ _ off 0 (by grind)];have:=SF _ _ _ _ (I4 (aA.c1 β) _ _ _ _ Le)
   grind
   grind
  grind
theorem KN:∀(MM:List (Nat×Nat×aA))(cs r:List aA),yL cs MM=some r->(∀x∈cs,x.h6 L)->(∀q∈MM,q.2.2.ok L)->∀x∈r,x.h6 L
 |[],cs,r,aj,aw,_=>by grind [yL]
 |(off,size,y)::MM,cs,r,aj,aw,aq=>by
  simp only[yL]at aj;split at aj;rename_i aN Fg;cases af:gN aN.length size with
  |false=>grind
  |true=>
   rw[af]at aj;simp only[lv]at aj;split at aj;rename_i gQ Le;refine KN MM gQ r aj (λx ad=>?_) λq p5=>aq q (by grind);rcases SC Le ad with ad|ad
   grind
   exact Kp Fg (aq _ (iU ..)) x ad
   grind
  grind
end
section
variable {P:dW}{ai:I}{aV:bb}{n:Nat}{β:Nat->Nat}{L:List LE}{h:I}{e:bY}{a:Act}{w:bb}
theorem X0{α:Type}(l:List α):∀k o,o<k*l.length->(bG k l).flatten[o]?=l[o%l.length]?
 |0,o,h=>by simp at h
 |k+1,o,h=>by
  rw[GO,qr,JY];split;rename_i ae;rw[Nat.mod_eq_of_lt ae];rename_i ae;have cu:l.length<=o:=Nat.le_of_not_lt ae;rw[X0 l k (o-l.length) (by grind),Nat.mod_eq_sub_mod cu]
theorem R3{z:Array ao}{s:Nat}(aY:z.size=s)(k:Nat):(rO z (k*s)).toList=(bG k z.toList).flatten:=by
 subst aY;apply List.ext_getElem?;intro o;by_cases ae:o<k*z.size;have hp:0<z.size:=by
  grind
 have hm:o%z.size<z.size:=Nat.mod_lt _ hp;rw[X0 z.toList k o (by omega)];simp[rO,ae,hm];rw[qs (by grind [rO]),qs (by simp_all)]
theorem Xz{t len:Nat}{be:Array (Nat×e3)}{i:BY}(ay:J.op= .buildSlice t len be)(hu:P.underlying t=some (.slice el))(ag:P.info? el=some i)(aY:i.zero=some z)(qR:z.cells.size=i.size)(hC:∀bS,(∀i,i<L.length->bS i=β i)->C bS)(aL:h4 ai aV n C K next)(m:cb ai aV β L h w)(r:cJ n β L e a)(aF:de L)(hp:fz P n (.kq el len i.size z.cells.toList (be.toList.map λp=>(p.1,bK p.2))) J.dst e L h K):J.wp P a w next Q:=by
 simp only[fz,Cl,we]at hp;cases af:nT (len*i.size) 16777216 with
 |false=>grind
 |true=>
  rw[af]at hp;simp only[lv,lo]at hp;split at hp;rename_i cs fg;have cu:len*i.size<=16777216:=rh af;refine Sf hC aL m r aF (cells:=cs) (ty:=el) ?_ (bx:=.s L.length 0 len len) (λbS k8=>?_) (S6 _ _) hp;exact KN _ _ _ fg (ad1 _ _) λq aq=>by
   obtain⟨p,_,rfl⟩:=dn.1 aq;exact r.qY p.2
  have az:=KO (β:=β) (λo=>some (o*i.size,i.size)) (λp:Nat×e3=>(p.1,(bK p.2).get e)) (λp=>(p.1*i.size,i.size,(bK p.2).get e)) be.toList (Du len z.cells.toList) cs (λp _=>⟨rfl,rfl⟩) fg;have nD:(GJ (λx:Nat×e3=>(x.1,aA.c β (dB.get e (bK x.2)))) be.toList)=(GJ (λx:Nat×e3=>(x.1,a.eval x.2)) be.toList):=pK λp _=>by rw[r.eval p.2]
  simp only at az;rw[nD,ad0]at az;have anF:=R3 (z:=z.cells) qR len;by_cases aq:len*i.size=0;have sy:(bG len z.cells.toList).flatten=[]:=ra (by simp_all);rw[sy]at az;simp[cY,ay,agT,gj hu,run_sizeOf ag,aq,newRow,aA.c,aA.c1,k8,az,Array.range_zero'];have aAP:¬(len*i.size>2^24):=by omega
  have rF:((Array.range (len*i.size)).map λk=>z.cells[k%z.cells.size]!)=(bG len z.cells.toList).flatten.toArray:=r6 anF;have alR:¬(16777216<len*i.size):=by omega
  simp[cY,ay,agT,gj hu,run_sizeOf ag,alR,aq,zeroValue,Bq,ag,aY,rF,az,newRow,aA.c,aA.c1,k8]
  grind
theorem cb.af6(m:cb ai aV β L h w){cs gQ:List ao}(af:h b=some (.cells cs.toArray ty (0,0))):cb ai aV β L (h.put b (.cells gQ.toArray ty (0,0))) (wr w b ty gQ):=by
 have di:b<w.heap.size:=m.bR.hw.lt (by grind);have bH:∀i l,b1 L i=some l->l.live=true->β i≠b:=λi l al ah e=>by
  have:=m.hole i l al ah
  grind
 refine⟨⟨λo J ae=>?_,λi l al=>?_⟩,λi l al ah=>?_,m.inj,λi l al ah=>by rw[Nu];exact m.lt i l al ah,m.bX,m.os,m.tape,m.output,by rw[Nu];exact m.size,λo ae aC=>?_,λo ae=>?_⟩;by_cases e:o=b;subst e;rw[I.bP]at ae;injection ae with ae;subst ae;exact JF w _ di;rw[I.cf _ _ e]at ae;rw[np w _ e];exact m.bR.hw o J ae;have aj:=m.bR.bR i l al;cases l with
 |own Wz DI=>simp only[LE.eL]at aj⊢;rw[np w _ (bH i _ al rfl)];exact aj
 |bV eP=>exact aj
 |row bs size A n cap xs=>
  simp only[LE.eL]at aj⊢;obtain⟨⟨h1,ab⟩,an⟩:=aj;refine⟨⟨h1,?_⟩,an⟩;rcases ab with ab|⟨g,c,a8,aJ,aI,ck,eE⟩
  grind
  injection aJ with aJ pa pT;have ak:=an _ aJ;subst aJ;exact .inr ⟨g,c,a8,by rw[pT],aI,by rw[np w _ (by have:=bH i _ al rfl;grind)];exact ck,eE⟩
 |map f k=>simp only[LE.eL]at aj⊢;rw[np w _ (bH i _ al rfl)];exact aj
 |gone=>trivial
 rw[I.cf _ _ (bH i l al ah)];exact m.hole i l al ah;by_cases e:o=b;subst e;rcases m.fresh o (by grind)with e|e
 grind
 omega;rw[np w _ e];exact m.frame o ae aC;by_cases e:o=b;subst e;exact m.fresh o (by grind);rw[I.cf _ _ e]at ae;exact m.fresh o ae
theorem SB{α:Type}(iH:List α):∀(off:Nat)(l aN r:List α),over l off aN=some r->over (l++iH) off aN=some (r++iH)
 |0,l,[],r,h=>by grind [over]
 |0,[],y::aN,r,h=>by grind [over]
 |0,x::l,y::aN,r,h=>by
  simp only[over]at h;split at h;rename_i cT am;injection h with h;subst h;simp[over,SB iH 0 l aN cT am]
  grind
 |off+1,[],aN,r,h=>by grind [over]
 |off+1,x::l,aN,r,h=>by
  simp only[over]at h;split at h;rename_i cT am;injection h with h;subst h;simp[over,SB iH off l aN cT am]
  grind
theorem akg{K:List LE->I->Prop}{cc:ar}(m:cb ai aV β L h w)(aF:de L)(hp:Gx L h cc au K){t:Nat}(av:iP P t=true)(ah:v.cells.toList=au)(al:au.length=ir P t)(h1:∀u∈au,u.oneCell'=true):∃bd U aZ,K bd U/\(aCb t cc v).run P w= .ok () aZ/\cb ai aV β bd U aZ/\de bd/\(∀i,fi L i->fi bd i):=by
 cases hp with
 |hp b off ty cs gQ a6 af aL k=>
  subst a6;exact⟨_,_,_,k,MX av (by grind) (m.bR.hw _ _ af) (by grind) (by grind),m.af6 af,aF,λ_=>id⟩
 |row i bs size g pu cap xs mG o ag a6 aL k=>
  obtain⟨⟨aM,aD⟩,bj⟩:=m.bR.bR i _ ag;rcases aD with⟨aD,_⟩|⟨b7,c,a8,aJ,aI,ck,eE,mf,tx,An⟩
  grind
  injection aJ with aJ pa pT;injection aJ with aJ;subst aJ;subst pT;have ak:=bj _ rfl;simp only at ak;subst ak;rw[a6,add_lit];have nF:=I3 _ _ _ _ aL;have tN:a8.toList=xs++a8.toList.drop (pu*size):=by
   simp[<-An]
  have tL:over a8.toList (0+o) au=some (mG++a8.toList.drop (pu*size)):=by
   have aq:=SB (a8.toList.drop (pu*size)) _ _ _ _ aL
   grind
  have dp:=MX (P:=P) av (b:=β i) (off:=0+o) (ty:=bs) (v:=v) (w:=w) (cs:=a8.toList) (by grind) (by omega) (by grind) (by rw[ah];exact tL);obtain⟨bc,et⟩:=m.write (b3:=.row bs size (some ⟨β i,0,none⟩) pu cap mG) ag rfl rfl rfl (ty:=bs) (cs:=mG++a8.toList.drop (pu*size)) (by
   refine⟨⟨by omega,.inr ⟨β i,cap,_,rfl,cO _,JF w _ (m.lt i _ ag rfl),eE,mf,?_,?_⟩⟩,λg e=>by grind⟩
   grind
   grind)
  exact⟨_,_,_,k,dp,bc,aF.nQ (j4 ag) et (λ_ _ e=>by cases e),et⟩
theorem akA{x y:e3}(ay:J.op= .store t x y)(av:iP P t=true)(aL:h4 ai aV n Any K next)(m:cb ai aV β L h w)(r:cJ n β L e a)(aF:de L)(hp:fz P n (.store (ir P t) (bK x) (bK y)) J.dst e L h K):J.wp P a w next Q:=by
 have ad:=r.eval x;have aQ:=r.eval y;simp only[fz]at hp;split at hp;rename_i cs fg;cases af:(FO cs&&gN cs.length (ir P t))with
 |false=>grind
 |true=>
  rw[af]at hp;simp only[fY]at af;simp only[lv]at hp;have eb:cs.length=ir P t:=mJ af.2;have sn:=Ko (β:=β) fg;have h1:=ac1 (β:=β) af.1;have raw:∀cc:ar,((bK x).get e).c β= .pointer (some cc)->kX 40 cs (λL h=>match qf L cs with
   |some au=>Gx L h cc au λL h=>gn n J.dst (.v eU) e L h K
   |none=>False) L h->J.wp P a w next Q:=by
   intro cc amh nH
   obtain⟨bd,U,bJ,bc,ef,et,_⟩:=rV cs _ _ _ m aF nH
   split at bJ
   rename_i au fh
   have ah:=Bg bc.bR cs au fh
   obtain⟨iT,ab,dw,aM,aD,bj,bT,dz⟩:=akg (P:=P) bc ef bJ av (v:=((bK y).get e).c β) (by grind) (by grind) (by grind)
   refine JE (aZ:=dw) (by simp[cY,ay,ad,aQ,amh,agY,qq,aD]) ?_
   exact jd aL trivial bj (r.agree (λ_ _=>rfl) λi ag=>dz i (et i ag)) bT (x:=.v eU) trivial aM
   grind
  split at hp;rename_i i off aD5;split at hp;rename_i xs ty ag;split at hp;rename_i mG tL;have AQ:=m.bR.bR i _ ag;simp only[LE.eL]at AQ;have QR:=I4 (aA.c1 β) _ _ _ _ tL;have dp:=MX (P:=P) av (b:=β i) (off:=off) (ty:=ty) (v:=((bK y).get e).c β) (w:=w) (by grind) AQ (by grind) (by rw[sn];omega);have dk:∀z∈mG,z.h6 L:=λz aY=>by
   rcases SC tL aY with aY|aY;exact aF i xs ty ag z aY;exact Kp fg (r.qY y) z aY
  obtain⟨bc,et⟩:=m.write (b3:=.own mG ty) ag rfl rfl rfl (ty:=ty) (cs:=mG.map (aA.c1 β)) (by simp only[LE.eL];exact JF w _ (m.lt i _ ag rfl));refine JE (aZ:=wr w (β i) ty (mG.map (aA.c1 β))) (by simp_all[cY,ay,ad,aQ,aD5,aA.c1,aA.c,agY,qq,dp]) ?_;exact jd aL trivial bc (r.agree (λ_ _=>rfl) et) (aF.aeB (j4 ag) et dk) (x:=.v eU) trivial (by rwa[we]at hp)
  grind
  rename_i b ag;exact raw ⟨b,off,none⟩ (by rw[aD5];exact Tu m.bR ag) hp
  grind
  rename_i cc aD5;exact raw cc (by rw[aD5];rfl) hp
  grind
 grind
theorem xW{args:Array ao}(af:∃fn,P.funcs[f]?=some fn/\fn.body.isSome=true/\(fn.name== "runtime.NumGoroutine")=false):(callFunc f args).run P w= .ok (.enter f args) w:=by
 obtain⟨fn,h1,ab,an⟩:=af;have aR:fn.body.isNone=false:=by simp_all
 simp only[callFunc,aDF,run_program,hd,h1,an,aR,uh,k',jR]
theorem cb.ext(m:cb ai aV β L h w){U:I}(x:Ext h w U aZ):cb ai aV β L U aZ:=by
 have hblk:∀i l,b1 L i=some l->l.live=true->aZ.heap[β i]?=w.heap[β i]? :=λi l al ah=>x.frame _ (m.lt i l al ah) (m.hole i l al ah);refine⟨⟨x.hw,λi l al=>?_⟩,λi l al ah=>?_,m.inj,λi l al ah=>BN (m.lt i l al ah) x.size,m.bX,x.os.trans m.os,x.tape.trans m.tape,x.output.trans m.output,hT m.size x.size,λo ae aC=>?_,λo ae=>?_⟩;have aj:=m.bR.bR i l al;cases l with
 |own cs ty=>simp only[LE.eL]at aj⊢;rw[hblk i _ al rfl];exact aj
 |bV b=>exact aj
 |row bs size A pu cap xs=>
  simp only[LE.eL]at aj⊢;obtain⟨⟨h1,ab⟩,an⟩:=aj;refine⟨⟨h1,?_⟩,an⟩;rcases ab with ab|⟨g,c,a8,aJ,aI,ck,eE⟩
  grind
  injection aJ with aJ pa pT;have ak:=an _ aJ;subst aJ;simp only at ak;refine .inr ⟨g,c,a8,by rw[pT],aI,?_,eE⟩;rw[ak,hblk i _ al rfl,<-ak];exact ck
 |map f k=>simp only[LE.eL]at aj⊢;rw[hblk i _ al rfl];exact aj
 |gone=>trivial
 cases aq:U (β i)with
 |none=>rfl
 |some J=>
  rcases x.fresh (β i) (by grind)with aP|aP;exact absurd (m.hole i l al ah) aP;have:=m.lt i l al ah;omega
 have:h o=none:=by
  cases aq:h o with
  |none=>rfl
  |some J=>
   rcases m.fresh o (by grind)with aP|aP
   grind
   omega
 rw[x.frame o (BN ae m.size) this];exact m.frame o ae aC;rcases x.fresh o ae with aP|aP;exact m.fresh o aP;exact .inr (hT m.size aP)
theorem T2{ej:List aA}(aL:h4 ai aV n Any K next)(m:cb ai aV β L h w)(r:cJ n β L e a)(aF:de L)(hp:zD P n f ej J.dst e L h K)(dp:∀au:List ao,ej.map (aA.c β)=au->(∃fn,P.funcs[f]?=some fn/\fn.body.isSome=true/\(fn.name== "runtime.NumGoroutine")=false)->(cY a.eval J).run P w= .ok (.enter f au.toArray) w):J.wp P a w next Q:=by
 unfold zD at hp;obtain⟨f',h1,bJ,m1,fu,kY,_⟩:=rV ej _ _ _ m aF hp;split at bJ;rename_i au fh;have aw:=s3 m1.bR ej au fh;obtain⟨j',iT,ab,bB,m2,k7,oi,nk⟩:=mZ bJ β m1 fu;have dU:cJ n j' iT e a:=(r.agree (λ_ _=>rfl) kY).agree nk oi;cases bB with
 |mk ax rB k=>
  unfold zX;rw[dp au aw rB.body,GU];refine(rB.run w m2.bR.hw).mono ?_;rintro ke aZ ⟨v,U,rfl,cG,ad⟩;exact jd aL trivial (m2.ext ad) dU k7 (x:=.v v) trivial (k v U cG)
 |kU ax rB k=>
  unfold zX;rw[dp au aw rB.body,GU];refine(rB.run w m2.bR.hw).mono ?_;rintro ke aZ ⟨v,U,rfl,cG,ad⟩;obtain⟨NC,ma,an,eo,m3,Cy,Ds,Rb⟩:=mZ (k v U cG) j' (m2.ext ad) k7;exact jd aL trivial m3 (dU.agree Rb Ds) Cy (x:=.v v) trivial eo
 grind
theorem akr{args:Array e3}{iQ:Array fc}(ay:J.op= .call {callee:=.value (.func f),args:=args,argTypes:=iQ})(aL:h4 ai aV n Any K next)(m:cb ai aV β L h w)(r:cJ n β L e a)(aF:de L)(hp:fz P n (.call f (args.toList.map bK)) J.dst e L h K):J.wp P a w next Q:=by
 simp only[fz]at hp;refine T2 aL m r aF hp λau fh af=>?_;have he:args.map a.eval=au.toArray:=by
  rw[<-fh];apply r6;simp only[wO,lo];exact pK λx _=>r.eval x
 simp[cY,ay,zx,Bz,Act.eval,invoke,he,xW af]
theorem PA{x:e3}{args:Array e3}{iQ:Array fc}(ay:J.op= .call {callee:=.value x,args:=args,argTypes:=iQ})(aL:h4 ai aV n Any K next)(m:cb ai aV β L h w)(r:cJ n β L e a)(aF:de L)(hp:fz P n (.yE (bK x) (args.toList.map bK)) J.dst e L h K):J.wp P a w next Q:=by
 simp only[fz]at hp;have ad:=r.eval x;split at hp;rename_i f first iz aD5
 rw[aD5]at ad;refine T2 aL m r aF hp λau fh af=>?_;have he:first++args.map a.eval++iz=au.toArray:=by
  rw[<-fh];apply r6;simp only[Array.toList_append,wO,fm,lo];rw[List.append_assoc];have ah:∀l:List ao,l.map (aA.c β∘aA.v)=l:=λl=>by
   induction l with
   |nil=>rfl
   |cons y l bE=>rw[eO,bE];rfl
  rw[ah,ah];congr 2;exact pK λy _=>r.eval y
 simp only[cY,ay,zx,Bz,ad,aA.c,aA.c1,invoke,aDF,jR,hd];rw[he,xW af]
 grind
theorem akv{first iz:Array e3}(ay:J.op= .makeFunc (.func f) first iz)(QC:first=#[])(aL:h4 ai aV n Any K next)(m:cb ai aV β L h w)(r:cJ n β L e a)(aF:de L)(hp:fz P n (.Mh f (iz.toList.map bK)) J.dst e L h K):J.wp P a w next Q:=by
 simp only[fz]at hp;obtain⟨f',h1,bJ,m1,fu,kY,_⟩:=rV _ _ _ _ m aF hp;split at bJ;rename_i au fh;have aw:=s3 m1.bR _ au fh;have he:iz.map a.eval=au.toArray:=by
  rw[<-aw];apply r6;simp only[wO,lo];exact pK λx _=>r.eval x
 refine q4 (aZ:=w) (v:=.func (.func f) #[] au.toArray) (by simp[cY,ay,QC,Instr.makeFunc,he]) ?_;exact jd aL trivial m1 (r.agree (λ_ _=>rfl) kY) fu (x:=.v _) trivial bJ
 grind
end
section
variable {P:dW}{ai:I}{aV:bb}{n:Nat}{β:Nat->Nat}{L:List LE}{h:I}{e:bY}{a:Act}{w:bb}
theorem cb.grow(m:cb ai aV β L h w)(aF:de L){bs pu hE c4:Nat}{bA:Option ar}{mG:List ao}(ag:b1 L i=some (.row bs size A pu cap xs))(ak:w.grownBy aZ (Ab (.slice A pu cap)))(gW:aZ.ownsRow 0 bs size (.slice bA hE c4) hE mG)(mQ:Ab (.slice bA hE c4)=Ab (.slice A pu cap)\/Ab (.slice bA hE c4)=some w.heap.size):∃bS,(∀o,fi L o->bS o=β o)/\cb ai aV bS (fN L i (.row bs size bA hE c4 mG)) h aZ/\(∀o,fi L o->fi (fN L i (.row bs size bA hE c4 mG)) o)/\(∀o,o≠i->bS o=β o):=by
 have di:=j4 ag;obtain⟨⟨_,_⟩,H5⟩:=m.bR.bR i _ ag;have hblk:∃b,(∀g,bA=some g->g.block=b)/\(bA.isSome=true->(A.isSome=true/\b=β i)\/b=w.heap.size):=by
  cases bA with
  |none=>simp
  |some g=>
   refine⟨g.block,λb7 e=>by grind,λ_=>?_⟩;simp only[Ab]at mQ
   grind
 obtain⟨b,af,Qu⟩:=hblk;have tI:∀o,o<w.heap.size->(∀g,A=some g->o≠g.block)->aZ.heap[o]?=w.heap[o]? :=λo ae bH=>ak.block o ae (by
  grind [Ab])
 have bH:∀o l,o≠i->b1 L o=some l->l.live=true->∀g,A=some g->β o≠g.block:=λo l ae al ah g e he=>by
  refine ae (m.inj o i l _ al ag ah (by rw[e];rfl) ?_)
  grind
 have iE:∀o,o≠i->(if o=i then b else β o)=β o:=λo ae=>aE ae;have Ii:∀o,fi L o->(if o=i then b else β o)=β o:=λo⟨l,al,am⟩=>iE o λe=>by
  subst e;rw[ag]at al;injection al with al;subst al;cases am
 have tN:∀o k,b1 (fN L i (.row bs size bA hE c4 mG)) o=some k->(o=i/\k= .row bs size bA hE c4 mG)\/(o≠i/\b1 L o=some k):=by
  intro o k hk;rw[oW _ _ _ _ di]at hk
  grind
 have u6:∀o l,o≠i->b1 L o=some l->l.live=true->aZ.heap[β o]?=w.heap[β o]? :=λo l ae al ah=>tI _ (m.lt o l al ah) (λg e=>bH o l ae al ah g e);have P4:∀g,A=some g->h g.block=none:=λg e=>by
  have:=m.hole i _ ag (by rw[e];rfl)
  grind
 have amz:bA.isSome=true->h b=none:=λe=>by
  rcases Qu e with⟨aM,aD⟩|aD
  grind
  rw[aD];exact m.bR.hw.out (dd _)
 have ZN:∀o l,o≠i->b1 L o=some l->l.live=true->bA.isSome=true->β o≠b:=λo l ae al ah e he=>by
  rcases Qu e with⟨aM,aD⟩|aD
  grind
  have:=m.lt o l al ah;omega
 refine⟨λo=>if o=i then b else β o,Ii,⟨⟨λo J aL=>?_,λo k hk=>?_⟩,λo k hk fD=>?_,λo nI k e1 hk br fD yX he=>?_,λo k hk fD=>?_,λo k hk fD=>?_,ak.os.trans m.os,ak.tape.trans m.tape,ak.output.trans m.output,hT m.size ak.size,λo ae aC=>?_,m.fresh⟩,λo ae=>?_,iE⟩;rw[tI o (m.bR.hw.lt (by grind)) (λg e q=>by grind)];exact m.bR.hw o J aL;rcases tN o k hk with⟨aM,aD⟩|⟨ae,hk⟩
 grind [LE.eL]
 have aj:=m.bR.bR o k hk;cases k with
 |own cs ty=>simp only[LE.eL]at aj⊢;rw[iE o ae,u6 o _ ae hk rfl,Et (aF o cs ty hk) Ii];exact aj
 |bV eP=>grind [LE.eL]
 |row aAN aBR dE dR iy aBX=>
  simp only[LE.eL]at aj⊢;rw[iE o ae];obtain⟨⟨h1,ab⟩,an⟩:=aj;refine⟨⟨h1,?_⟩,an⟩;rcases ab with ab|⟨g,c,a8,aJ,aI,ck,eE⟩
  grind
  injection aJ with aJ pa pT;have AD:=an _ aJ;subst aJ;simp only at AD;refine .inr ⟨g,c,a8,by rw[pT],aI,?_,eE⟩;rw[AD,u6 o _ ae hk rfl,<-AD];exact ck
 |map f bB=>grind [LE.eL]
 |gone=>trivial
 rcases tN o k hk with⟨aM,aD⟩|⟨ae,hk⟩;subst aD;simp only[aX aM];exact amz fD;simp only[iE o ae];exact m.hole o k hk fD;rcases tN o k hk with⟨aM,aD⟩|⟨aM,aD⟩<;>rcases tN nI e1 br with⟨bj,bT⟩|⟨bj,bT⟩;omega;subst aD;simp only[aX aM,iE nI bj]at he;exact absurd he.symm (ZN nI e1 bj bT yX fD);subst bT;simp only[aX bj,iE o aM]at he;exact absurd he (ZN o k aM aD fD yX);simp only[iE o aM,iE nI bj]at he;exact m.inj o nI k e1 aD bT fD yX he;rcases tN o k hk with⟨aM,aD⟩|⟨ae,hk⟩;subst aD;simp only[aX aM];cases bA with
 |none=>cases fD
 |some g=>
  rcases gW.2 with⟨q,_⟩|⟨g2,c,a8,aJ,aI,ck,eE⟩
  grind
  grind
 simp only[iE o ae];exact BN (m.lt o k hk fD) ak.size;rcases tN o k hk with⟨aM,aD⟩|⟨ae,hk⟩;subst aD;simp only[aX aM];rcases Qu fD with⟨aD,bj⟩|bj;rw[bj];exact m.bX i _ ag aD;rw[bj];exact .inr m.size;simp only[iE o ae];exact m.bX o k hk fD;rw[tI o (BN ae m.size) (λg e q=>?_)];exact m.frame o ae aC;rcases m.bX i _ ag (by rw[e];rfl)with aP|aP
 grind
 grind
 obtain⟨k,hk,CJ⟩:=ae;by_cases e:o=i;subst e;rw[ag]at hk;injection hk with hk;subst hk;cases CJ;exact⟨k,by rw[oW _ _ _ _ di,aE e];exact hk,CJ⟩
theorem cb.IU(m:cb ai aV β L h w)(aF:de L)(bs size:Nat):cb ai aV β (L++[.row bs size none 0 0 []]) h w/\de (L++[.row bs size none 0 0 []]):=by
 have fS:∀i l,b1 (L++[LE.row bs size none 0 0 []]) i=some l->(b1 L i=some l)\/(l= .row bs size none 0 0 []):=by
  intro i l al;rw[tX]at al
  grind
 have lZ:∀i l,b1 (L++[LE.row bs size none 0 0 []]) i=some l->l.live=true->b1 L i=some l:=λi l al ah=>by
  rcases fS i l al with aP|rfl;omega;cases ah
 refine⟨⟨⟨m.bR.hw,λi l al=>?_⟩,λi l al ah=>m.hole i l (lZ i l al ah) ah,λi o l b3 al jL ah jZ=>m.inj i o l b3 (lZ i l al ah) (lZ o b3 jL jZ) ah jZ,λi l al ah=>m.lt i l (lZ i l al ah) ah,λi l al ah=>m.bX i l (lZ i l al ah) ah,m.os,m.tape,m.output,m.size,m.frame,m.fresh⟩,?_⟩;rcases fS i l al with aP|rfl;exact m.bR.bR i l aP;simp only[LE.eL];exact⟨⟨by simp,.inl ⟨rfl,rfl⟩⟩,λg e=>by cases e⟩;intro i cs t ag x ad;rcases fS i _ ag with aP|aP;exact yz (aF i cs t aP x ad) λi=>qg _
 grind
theorem aeb{ty el:fc}{i:BY}(av:P.underlying t=some (.slice el))(ag:P.info? el=some i)(gW:w.ownsRow 0 el size v k xs)(c:Nat):(ui #[t,t] ty #[v,.slice none 0 c]).run P w= .ok v w:=by
 rcases gW.2 with⟨rfl,rfl⟩|⟨g,cap,a8,rfl,_,_,AM,_⟩;simp[ui,gj av,sizeOf,Bq,ag,NJ,agn];simp[ui,gj av,sizeOf,Bq,ag,NJ,agn,AM,ae2]
def yt(w:bb)(size:Nat)(B:Option ar)(k:Nat)(au:List ao):Prop:=au.length=k*size/\((B=none/\k=0)\/∃b,B=some b/\∀o v,au[o]?=some v->w.cell? (b.add o)=some v)
theorem aeX(s:jQ β L h w)(aj:Src L h size B k au):yt w size B k au:=by
 cases aj with
 |nil hm=>
  subst hm;refine⟨by simp,?_⟩;cases B with
  |none=>simp
  |some b=>simp
 |hp b au bW al aw=>exact⟨al,.inr ⟨b,bW,λo v e=>s.hw.cell (aw o v e)⟩⟩
theorem MV{ty el:fc}{i:BY}(av:P.underlying t=some (.slice el))(ag:P.info? el=some i)(aY:i.zero=some z)(jo:i.size=size)(oL:i.bytes=bytes)(qR:z.cells.size=size)(ht:0<size)(gW:w.ownsRow 0 el size v k xs)(aj:yt w size B q au)(h1:∀u∈au,u.oneCell'=true)(EL:k+q<=c')(af:(k+q)*bytes<=140737488355328):
 ∃uf aZ,(ui #[t,t] ty #[v,.slice B q c]).run P w= .ok uf aZ/\aZ.ownsRow 0 el size uf (k+q) (xs++au)/\w.grownBy aZ v.ownBlock/\
  (uf= .slice none 0 0↔v= .slice none 0 0/\q=0)/\(uf.ownBlock=v.ownBlock\/uf.ownBlock=some w.heap.size):=by
 obtain⟨al,aj⟩:=aj
 rcases aj with⟨rfl,rfl⟩|⟨b,rfl,aw⟩
 have:au=[]:=ra (by omega)
 subst this
 exact⟨v,w,aeb av ag gW c,by grind,aip w _,by simp,.inl rfl⟩
 exact run_append_own_at (P:=P) w 0 t ty el i z size bytes av ag aY jo oL qR ht v k xs gW b q c au al aw h1 EL af (cO _)
theorem Ta(gW:w.ownsRow 0 el size v k xs):∃A cap,v= .slice A k cap:=by
 rcases gW.2 with⟨rfl,rfl⟩|⟨g,cap,a8,rfl,_⟩;simp;simp
theorem Ji(gW:w.ownsRow 0 el size (.slice A k cap) k xs):(Value.slice A k cap= .slice none 0 0)↔A=none:=by
 constructor
 grind
 intro e;subst e;rcases gW.2 with⟨q,_⟩|⟨g,c,a8,q,_⟩;omega
 grind
theorem Bh(gW:w.ownsRow 0 el size (.slice A k cap) k xs):k<=cap:=by
 rcases gW.2 with⟨q,aD⟩|⟨g,c,a8,q,_,_,h,_⟩;omega
 grind
theorem SI{g:ar}(gW:w.ownsRow 0 el size (.slice (some g) k cap) k xs):∃a8:Array ao,g=⟨g.block,0,none⟩/\w.heap[g.block]?=some (.cells a8 el (0,0))/\k<=cap/\cap<=c'/\a8.size=cap*size/\xs.length=k*size/\a8.toList.take (k*size)=xs:=by
 rcases gW.2 with⟨aM,_⟩|⟨g1,c1,a8,aM,_,bj,bT,dz,j6,Bf⟩
 grind
 injection aM with aJ _ ck;injection aJ with aJ;subst aJ;subst ck;exact⟨a8,rfl,bj,bT,dz,j6,gW.1,Bf⟩
theorem Tz(ai:0<q)(aj:yt w size B q au):au.length=q*size/\∃b,B=some b/\∀o v,au[o]?=some v->w.cell? (b.add o)=some v:=by
 obtain⟨al,iK⟩:=aj
 grind
theorem cb.aF1{ty el:fc}{i:BY}(av:P.underlying t=some (.slice el))(ag:P.info? el=some i)(aY:i.zero=some z)(jo:i.size=size)(oL:i.bytes=bytes)(qR:z.cells.size=size)(ht:0<size){eP g:ar}{A8:List ao}(m:cb ai aV β L h w)(aF:de L)(nF:A8.length=k*size)(y4:∀o u,A8[o]?=some u->w.cell? (g.add o)=some u)(al:au.length=q*size)(lV:∀o v,au[o]?=some v->w.cell? (eP.add o)=some v)(aw:cap<k+q)(hm:k+q<=c')(af:(k+q)*bytes<=140737488355328):∃b7 c4 bS aZ,(ui #[t,t] ty #[.slice (some g) k cap,.slice (some eP) q c]).run P w= .ok (.slice (some b7) (k+q) c4) aZ/\k+q<=c4/\cb ai aV bS (L++[.row el size (some b7) (k+q) c4 (A8++au)]) h aZ/\de (L++[.row el size (some b7) (k+q) c4 (A8++au)])/\(∀o,fi L o->fi (L++[.row el size (some b7) (k+q) c4 (A8++au)]) o)/\(∀o,fi L o->bS o=β o):=by
 obtain⟨uf,aZ,dp,jn,ak⟩:=run_append_arg_grows (P:=P) (w:=w) t ty el i z size bytes av ag aY jo oL qR ht g k cap A8 nF y4 eP q c au al lV (by omega) hm af;have H7:aZ.ownsRow 0 el size uf (k+q) (A8++au):=⟨jn.1,by
  rcases jn.2 with x|⟨g,c,a8,aJ,aI,ck⟩;omega
  grind⟩
 have fJ:=run_append_grow (P:=P) w t ty el i z av ag aY g k cap A8 (by grind) y4 eP q c au (by grind) lV (by omega) (by grind [c']) (by rw[oL];exact growslice_fits (by omega) af);rw[dp]at fJ;injection fJ with ah _;subst ah;obtain⟨m1,fu⟩:=m.IU aF el size;have tG:b1 (L++[LE.row el size none 0 0 []]) L.length=some (.row el size none 0 0 []):=by rw[tX];simp
 obtain⟨bS,bL,bc,et,_⟩:=m1.grow fu tG ak H7 (.inr rfl);have kQ:∀y:LE,fN (L++[LE.row el size none 0 0 []]) L.length y=L++[y]:=λy=>by
  rw[Bl,wU _ _ (dd _)];simp
 have ef:=fu.nQ (j4 tG) et (λ_ _ e=>by cases e);rw[kQ]at bc et ef;exact⟨_,_,bS,aZ,dp,Bh H7,bc,ef,λo ae=>et o (qg _ ae),λo ae=>bL o (qg _ ae)⟩
theorem Xf{ty el:fc}{i:BY}(av:P.underlying t=some (.slice el))(ag:P.info? el=some i)(aY:i.zero=some z)(jo:i.size=size)(oL:i.bytes=bytes)(qR:z.cells.size=size)(ht:0<size){S:List ao->Prop}{K:aA->List LE->Prop}(m:cb ai aV β L h w)(aF:de L)(c5:∀au,S au->yt w size B q au)(hp:fQ el size bytes A k cap q S L K):∃bA c4 hE bS bd aZ,(ui #[t,t] ty #[.slice A k cap,.slice B q c]).run P w= .ok (.slice bA hE c4) aZ/\K (.v (.slice bA hE c4)) bd/\cb ai aV bS bd h aZ/\de bd/\(∀o,fi L o->fi bd o)/\(∀o,fi L o->bS o=β o):=by
 cases hp with
 |cR o xs au ae aj h1 hm af bQ=>
  have gW:=(m.bR.bR o _ ae).1;obtain⟨uf,aZ,dp,jn,ak,sy,mQ⟩:=MV (ty:=ty) (c:=c) av ag aY jo oL qR ht gW (c5 au aj) h1 hm af;obtain⟨bA,c4,rfl⟩:=Ta jn;obtain⟨bS,bL,bc,et,_⟩:=m.grow aF ae ak jn mQ;refine⟨bA,c4,_,bS,_,aZ,dp,bQ bA c4 ?_,bc,aF.nQ (j4 ae) et (λ_ _ e=>by cases e),et,bL⟩;rw[Ji jn,Ji gW]at sy;exact⟨sy,Bh jn⟩
 |fresh au aO aC yR aj h1 hm af bQ=>
  subst aO;subst aC;subst yR;obtain⟨m1,fu⟩:=m.IU aF el size;have ae:b1 (L++[LE.row el size none 0 0 []]) L.length=some (.row el size none 0 0 []):=by rw[tX];simp
  have gW:=(m1.bR.bR _ _ ae).1;obtain⟨uf,aZ,dp,jn,ak,sy,mQ⟩:=MV (ty:=ty) (c:=c) av ag aY jo oL qR ht gW (c5 au aj) h1 (by omega) (by grind);obtain⟨bA,c4,rfl⟩:=Ta jn;obtain⟨bS,bL,bc,et,_⟩:=m1.grow fu ae ak jn mQ;have kQ:fN (L++[LE.row el size none 0 0 []]) L.length (.row el size bA (0+q) c4 ([]++au))=L++[.row el size bA q c4 au]:=by
   rw[Bl,wU _ _ (dd _)];simp
  rw[kQ]at bc et;rw[Ji jn,Ji gW]at sy;simp only[true_and]at sy;have ds:0+q=q:=Nat.zero_add q;rw[ds]at dp;have ef:=fu.nQ (j4 ae) (by rw[kQ];omega) (λ_ _ e=>by cases e);rw[kQ]at ef;exact⟨bA,c4,q,bS,_,aZ,dp,bQ bA c4 ⟨sy,by have:=Bh jn;omega⟩,bc,ef,λo ae=>et o (qg _ ae),λo ae=>bL o (qg _ ae)⟩
 |off o b kV N iJ xs au aO ae db hC aj h1 ai hm af bJ bB=>
  subst aO;have gW:=(m.bR.bR o _ ae).1;obtain⟨al,eP,rfl,lV⟩:=Tz ai (c5 au aj);obtain⟨a8,_,jK,aAW,al0,fg,sE,rK⟩:=SI gW;simp only at jK;by_cases am:k+q<=cap;have AA:=aw8 (P:=P) w i.size q eP q c au (by grind) lV;have YC:N+q<=iJ:=by
   have:(N+q)*size<=iJ*size:=by
    rw[ti,db,hC am,Nat.add_assoc,<-ti];exact Nat.add_le_add_left (pN _ am) _
   exact Nat.le_of_mul_le_mul_right this ht
  have CI:kV+k*size+0+au.length<=a8.size:=by
   rw[<-db,al,fg,wX,<-ti];exact pN _ YC
  have iD:=run_storeCells_at P b (kV+k*size) el au 0 a8 w jK CI h1;rw[wX,<-db,rK]at iD;have dp:(ui #[t,t] ty #[.slice (some ⟨b,kV,none⟩) k cap,.slice (some eP) q c]).run P w= .ok (.slice (some ⟨b,kV,none⟩) (k+q) cap) (w.setRow b (xs++au++a8.toList.drop (N*size+au.length)).toArray):=by
   rw[jo]at AA;simp[ui,gj av,sizeOf,Bq,ag,jo,NJ,am,AA,agd,<-db,iD]
  have eb:(xs++au).length=(N+q)*size:=by grind
  have jn:(w.setRow b (xs++au++a8.toList.drop (N*size+au.length)).toArray).ownsRow 0 el size (.slice (some ⟨b,0,none⟩) (N+q) iJ) (N+q) (xs++au):=by
   refine⟨eb,.inr ⟨b,iJ,_,rfl,cO _,setRow_heap w b a8 _ el _ jK,YC,al0,?_,?_⟩⟩
   grind
   grind
  have ak:w.grownBy (w.setRow b (xs++au++a8.toList.drop (N*size+au.length)).toArray) (Ab (.slice (some ⟨b,0,none⟩) N iJ)):=⟨rfl,rfl,rfl,by simp,λo _ ae=>setRow_other w b o _ (λe=>ae (by rw[e];rfl))⟩;obtain⟨bS,bL,bc,et,_⟩:=m.grow aF ae ak jn (.inl rfl);exact⟨_,_,_,bS,_,_,dp,bJ am,bc,aF.nQ (j4 ae) et (λ_ _ e=>by cases e),et,bL⟩;have nF:(xs.drop kV).length=k*size:=by simp_all
  have y4:∀o u,(xs.drop kV)[o]?=some u->w.cell? ((ou b kV none).add o)=some u:=λp u hu=>by
   rw[List.getElem?_drop]at hu;have:=Jn m.bR ae hu;rw[add_lit]at this⊢
   grind
  obtain⟨b7,c4,bS,aZ,dp,yR,bc,ef,h2,fk⟩:=m.aF1 (ty:=ty) (c:=c) (cap:=cap) av ag aY jo oL qR ht aF nF y4 al lV (by omega) hm af;exact⟨_,_,_,bS,_,aZ,dp,bB (by omega) _ _ yR,bc,ef,h2,fk⟩
theorem ake{ty el:fc}{i:BY}(av:P.underlying t=some (.slice el))(ag:P.info? el=some i)(aY:i.zero=some z)(jo:i.size=size)(oL:i.bytes=bytes)(qR:z.cells.size=size)(ht:0<size){S:List ao->Prop}{K:aA->List LE->I->Prop}(m:cb ai aV β L h w)(aF:de L)(c5:∀au,S au->yt w size B q au)(hp:BB el size bytes A k cap q S L h K):∃bA c4 hE bS bd U aZ,(ui #[t,t] ty #[.slice A k cap,.slice B q c]).run P w= .ok (.slice bA hE c4) aZ/\K (.v (.slice bA hE c4)) bd U/\cb ai aV bS bd U aZ/\de bd/\(∀o,fi L o->fi bd o)/\(∀o,fi L o->bS o=β o):=by
 have lift:fQ el size bytes A k cap q S L (λx L=>K x L h)->∃bA c4 hE bS bd U aZ,(ui #[t,t] ty #[.slice A k cap,.slice B q c]).run P w= .ok (.slice bA hE c4) aZ/\K (.v (.slice bA hE c4)) bd U/\cb ai aV bS bd U aZ/\de bd/\(∀o,fi L o->fi bd o)/\(∀o,fi L o->bS o=β o):=λaq=>by
  obtain⟨bA,c4,hE,bS,bd,aZ,h2,fk,ig⟩:=Xf (ty:=ty) (c:=c) av ag aY jo oL qR ht m aF c5 aq
  grind
 cases hp with
 |cR o xs au ae aj h1 hm af bQ=>exact lift (.cR o xs au ae aj h1 hm af bQ)
 |fresh au aO aC yR aj h1 hm af bQ=>exact lift (.fresh au aO aC yR aj h1 hm af bQ)
 |off o b kV N iJ xs au aO ae db hC aj h1 ai hm af bJ bB=>exact lift (.off o b kV N iJ xs au aO ae db hC aj h1 ai hm af bJ bB)
 |mem b off a8 gQ au A8 aO af aj h1 ai nF fS aL hm ph bJ bB=>
  subst aO;obtain⟨al,eP,rfl,lV⟩:=Tz ai (c5 au aj);have jK:=m.bR.hw _ _ af;by_cases am:k+q<=cap;have aL:=aL am;have AA:=aw8 (P:=P) w i.size q eP q c au (by grind) lV;have iD:=Tl (P:=P) (b:=b) (ty:=el) au w a8 gQ (off+k*size) 0 (by omega) h1 (by omega);have bH:au≠[]:=λe=>by
   rw[e]at al;have:q*size≠0:=Nat.mul_ne_zero (by omega) (by omega)
   grind
  rw[aE bH]at iD;have dp:(ui #[t,t] ty #[.slice (some ⟨b,off,none⟩) k cap,.slice (some eP) q c]).run P w= .ok (.slice (some ⟨b,off,none⟩) (k+q) cap) (wr w b el gQ):=by
   rw[jo]at AA;simp[ui,gj av,sizeOf,Bq,ag,jo,NJ,am,AA,agd,iD]
  exact⟨_,_,_,β,L,_,_,dp,bJ am,m.af6 (by omega),aF,λ_=>id,λ_ _=>rfl⟩;have y4:∀o u,A8[o]?=some u->w.cell? ((ou b off none).add o)=some u:=λo u hu=>by
   rw[add_lit];simp_all[OK,jK]
  obtain⟨b7,c4,bS,aZ,dp,yR,bc,ef,h2,fk⟩:=m.aF1 (ty:=ty) (c:=c) (cap:=cap) av ag aY jo oL qR ht aF nF y4 al lV (by omega) hm ph;exact⟨_,_,_,bS,_,h,aZ,dp,bB (by omega) _ _ yR,bc,ef,h2,fk⟩
 |rd b off au A8 aO aj h1 ai nF fS aw hm ph bB=>
  subst aO;obtain⟨al,eP,rfl,lV⟩:=Tz ai (c5 au aj);have y4:∀o u,A8[o]?=some u->w.cell? ((ou b off none).add o)=some u:=λo u hu=>m.bR.hw.cell (fS o u hu);obtain⟨b7,c4,bS,aZ,dp,yR,bc,ef,h2,fk⟩:=m.aF1 (ty:=ty) (c:=c) (cap:=cap) av ag aY jo oL qR ht aF nF y4 al lV (by omega) hm ph;exact⟨_,_,_,bS,_,h,aZ,dp,bB _ _ yR,bc,ef,h2,fk⟩
end
end Go.Sx
