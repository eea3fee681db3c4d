/- A part of the proof that the statement holds. Conditions: none. -/
import Derived.WalkKit
import Derived.Below
import Derived.Deep.Quiet
import Derived.StillTail
import Derived.Maps.AppendAt
import Derived.Laws.OwnMore
import Derived.Maps.RangeRun
import Derived.ArgAppend
import Derived.Laws.CopyRow
open Array renaming ext'->xZ,getD_eq_getD_getElem?->FC,getElem?_eq_some_iff->zw,size_push->P1,toList_map->zy
open Bool renaming and_eq_true->h0,false_eq_true->ug
open Go renaming Addr->aI,BinOp->s4,Exit->hT,FuncId->l4,IntKind->zJ,MapEntry->BB,Oper->cp,Operand->fM,Program->eN,TypeId->fR,TypeInfo->BP,Value->ax,World->bw,asIntOf->DB,eqGuard_at_int->I7,execOp->dk,loadCellsFrom->ayX,loadVar->Uw,madeCells->sI,maxLen->eD,resolve->tZ,run_firstCells_some->aCO,run_underlying->gM,storeCells->ait,storeVar->aiu,typeInfo->Ba,undef->fp
open Go.Act renaming put->Xe
open Go.Addr renaming add->LH,add_lit->ajT,mk->nI
open Go.Builtin renaming append_->wH,firstCells->aj1,lenOf->P3,len_->Xm
open Go.Deferred renaming ofValue->H5
open Go.Instr renaming buildSlice->akv,fieldAt->akx,fill->XI,indexAt->Dj,loadAt->Bs,storeAt->akA,sureAddr->qz
open Go.Next renaming value->alG
open Go.Op renaming intArith->L7
open Go.Oper renaming upon_enter->Iw,wp->BF
open Go.Region renaming before->eR,binds->rr
open Go.Result renaming andThen_ok->im,ok->alQ
open Go.Sem renaming run_bind->ic,run_pure->k8
open Go.Value renaming agg->IC,ownBlock->F'
open Go.World renaming cell?->Mf
open Go.World.grownBy renaming refl->aGN
open List renaming eq_nil_of_length_eq_zero->x9,flatten_cons->oR,getElem?_append->Dl,getElem?_eq_none->l6,length_cons->iv,map->Ii,map_append->fF,map_congr_left->mG,map_cons->ec,map_map->iD,mem_cons_self->hU,mem_map->cU,mem_singleton->hV,range->fL,replicate->bh,replicate_succ->wS,set_append_right->uq
open Nat renaming add_mul->BD,add_zero->zQ,beq->hW,ble->p0,blt->Qu,eq_of_beq_eq_true->qA,le_of_ble_eq_true->yc,le_refl->dz,le_trans->og,lt_of_lt_of_le->Qw,mul_le_mul_right->ur,zero_le->cW
open Option renaming isSome_iff_exists->Qy
namespace Go.Sx
set_option maxRecDepth 100000
set_option maxHeartbeats 0
abbrev uA:=@cond_false
abbrev oY:=@cond_true
abbrev ee:=@congrArg
abbrev io:=@decide_eq_false
abbrev gG:=@decide_eq_true
abbrev uB:=@decide_eq_true_eq
abbrev mm:=@if_false
abbrev aD:=@if_neg
abbrev aP:=@if_pos
abbrev lY:=@if_true
abbrev y':=@of_decide_eq_false
abbrev q2:=@of_decide_eq_true
set_option linter.all false
variable {z:Int}{b n o:Nat}{β:Nat->Nat}{p:Prop}{α:Type}{a:aI}{v:ax}{w:bw}{x y:fM}{el g' t:fR}{op:s4}
theorem I(h:p:=by omega):p:=h
theorem aM(h:p:=by decide):p:=h
theorem aJ(h:p:=by grind):p:=h
theorem bd(h:p:=by simp):p:=h
theorem dC(h:p:=by rfl):p:=h
theorem e2(h:p:=by kernel_rfl):p:=h
inductive eb where
 |t (n:Nat)
 |c (v:ax)
 |mN (g:Nat)
 |fn (f:Nat)
 deriving Inhabited
inductive lL where
 |dY (x:eb)
 |set (x:eb)
 |pick (c a b:eb)
 |alloc (ty:Nat) (zero:List ax)
 |box (ty:Nat) (x:eb)
 |build (zero:List ax) (parts:List (Nat×Nat×eb))
 |Gd (ty:Nat) (len size:Nat) (zero:List ax) (parts:List (Nat×eb))
 |load (agg:Bool) (n:Nat) (x:eb)
 |store (n:Nat) (x y:eb)
 |OD (x:eb)
 |arith (op:s4) (x y:eb)
 |cmp (op:s4) (x y:eb)
 |eqv (neg:Bool) (RC:Nat) (x y:eb)
 |I2 (op:s4) (x y:eb)
 |uv (op:s4) (ty:Nat) (x y:eb)
 |unop (op:UnOp) (x:eb)
 |conv(src dst:Nat) (x:eb)
 |Ai (off:Nat) (x:eb)
 |field (agg:Bool) (off n:Nat) (x:eb)
 |rM (size:Nat) (x i:eb)
 |NM (len size:Nat) (x i:eb)
 |len (ty:Nat) (x:eb)
 |Hb (x:eb)
 |extract (x:eb) (i:Nat)
 |call (f:Nat) (args:List eb)
 |DF (x:eb) (args:List eb)
 |Gf (f:Nat) (args:List eb)
 |Rd (x:eb) (args:List eb)
 |Zk (f:Nat) (args:List eb)
 |IG (ty bK aao aad:Nat) (zero:List ax) (x y:eb)
 |append (ty bK aao aad:Nat) (zero:List ax) (x y:eb)
 |EY (ty bK aao aad:Nat) (zero:List ax) (l c:eb)
 |slice (size:Nat) (x:eb) (cQ ai:Option eb)
 |Ky (j0:Bool) (x y:eb)
 |neg (x:eb)
 |Ot
 |lookup (b0:Nat) (zero:ax) (x k:eb) (ok:Bool)
 |Oj (b0:Nat) (x k v:eb)
 |Oq (f:Nat) (nl:List eb)
 |range (x:eb)
 |next (x:eb)
 |entry (x:eb)
 |Ro (k:zJ) (x:eb)
 |Pu (x:eb)
 |invoke (name:String) (x:eb) (args:List eb)
 |raw (U:Op)
 |bad
 deriving Inhabited
structure cK where
 d:Option Nat
 g:Option (Nat×Bool)
 k:lL
 deriving Inhabited
structure vu where
 U:cK
 after:List Nat
 m:Bool
 x:Bool:=false
 y:Bool:=false
 z:Bool:=false
 q:Option Nat:=none
 deriving Inhabited
inductive j4 where
 |nil
 |top
 |bot
 |v (U:cK) (m z:Bool) (r:j4)
 |w (U:cK) (y:Bool) (r:j4)
 |two (U:cK) (y:Bool) (r s:j4)
 |d (q:Nat) (U:cK) (y:Bool) (r:j4)
 |ai9 (q:Nat) (U:cK) (y:Bool) (r s:j4)
 deriving Inhabited
inductive IR where
 |skip
 |cd (ops:List cK)
 |y9 (t:j4)
 |seq (a b:IR)
 |cond (c:eb) (x y:IR)
 |block (id:Nat) (b:IR)
 |loop (b:IR)
 |exit (id:Nat)
 |scope (b:IR)
 |label
 |ret
 |aCo (f:eb) (a6:List Nat) (a b:IR)
 |bad
 deriving Inhabited
def bS:fM->eb
 |.tmp t=>.t t
 |.const v=>.c v
 |.global g=>.mN g
 |.func f=>.fn f
section
variable (P:eN)
def qr(t:Nat):Bool:=match P.underlying t with
 |some (.struct _)|some (.array _ _)=>true
 |_=>false
def rX(t:Nat):Bool:=match P.underlying t with
 |some (.int .i64)=>true
 |_=>false
def PC(t:Nat):Bool:=match P.underlying t with
 |some (.int .u64)=>true
 |_=>false
def jh(t:Nat):Nat:=match P.info? t with|some i=>i.size|none=>0
def jK(t:Nat):Bool:=(P.underlying t).isSome&&(P.info? t).isSome
def B9(t:Nat):Option (Nat×Nat×List ax):=match P.info? t with
 |some i=>(match i.zero with
  |some z=>if hW z.cells.size i.size&&Qu 0 i.size then some (i.size,i.bytes,z.cells.toList)else none
  |none=>none)
 |none=>none
def AM:List Field->Nat->Bool
 |[],_=>true
 |f::r,i=>rX P f.type&&hW f.offset i&&jK P f.type&& !qr P f.type&&decide (f.name≠ "_")&&AM r (i+1)
def EH(e:Nat):Bool:=rX P e&&jK P e&& !qr P e&&hW (jh P e) 1
def MI(t:Nat):Option Nat:=match P.underlying t with
 |some .bool=>some 0
 |some (.pointer _)=>some 1
 |some (.slice _)=>some 2
 |some (.func _ _ _)=>some 3
 |some (.struct a)=>if AM P a.toList 0&& !P.stoodInHeld t&& !P.eqGuardType P.depth t then some (5+a.size)else none
 |some (.array n e)=>if EH P e&& !P.eqGuardType P.depth t then some (5+n)else none
 |_=>none
def AP(t:Nat):Option Nat:=bif rX P t then some 0 else match P.underlying t with
 |some (.struct a)=>if AM P a.toList 0&& !P.stoodInHeld t&& !P.eqGuardType P.depth t then some (5+a.size)else none
 |some (.array n e)=>if EH P e&& !P.eqGuardType P.depth t then some (5+n)else none
 |_=>none
def LD(t:Nat):Option ax:=match P.info? t with
 |some i=>i.zero
 |none=>none
def PA(t:Nat):Option zJ:=match P.underlying t with
 |some (.int k)=>some k
 |_=>none
def Lm(t:Nat):Bool:=(PA P t).isSome
def Cf(t i:Nat):Option Field:=match P.underlying t with
 |some (.struct a)=>a[i]?
 |_=>none
def ET(t:Nat):List (Nat×fM)->Option (List (Nat×Nat×eb))
 |[]=>some []
 |(i,x)::r=>match Cf P t i with
  |some f=>(match jK P f.type,ET t r with
   |true,some l=>some ((f.offset,jh P f.type,bS x)::l)
   |_,_=>none)
  |none=>none
def Ww(t:Nat):Bool:=match P.underlying t with
 |some (.struct a)=>a.toList.all λf=>jK P f.type
 |_=>false
def Uy(t:Nat)(a:List (Nat×fM)):Option (List (Nat×Nat×eb)):=match P.underlying t with
 |some (.array _ e)=>if jK P e then some (a.map λp=>(p.1*jh P e,jh P e,bS p.2))else none
 |_=>none
def bQ(U:Op):lL:=
 match U with
 |.move x=>.dY (bS x)
 |.assign x=>.set (bS x)
 |.pick c a b=>.pick (bS c) (bS a) (bS b)
 |.alloc t=>(match P.info? t with
  |some i=>(match i.zero with|some z=>.alloc t z.cells.toList|none=>.raw U)
  |none=>.raw U)
 |.box t x=>.box t (bS x)
 |.build t g=>(match P.info? t with
  |some i=>(match i.zero,(if Ww P t then ET P t g.toList else Uy P t g.toList)with|some z,some l=>.build z.cells.toList l|_,_=>.raw U)
  |none=>.raw U)
 |.buildSlice t n g=>(match P.underlying t with
  |some (.slice e)=>(match B9 P e with|some (s,_,z)=>.Gd e n s z (g.toList.map λp=>(p.1,bS p.2))|none=>.raw U)
  |_=>.raw U)
 |.load t x=>if jK P t then .load (qr P t) (jh P t) (bS x)else .raw U
 |.store t x y=>if jK P t then .store (jh P t) (bS x) (bS y)else .raw U
 |.nilCheck x=>.OD (bS x)
 |.binOp op t x y _=>(match op with
  |.add|.sub|.mul=>if rX P t then .arith op (bS x) (bS y)else .uv op t (bS x) (bS y)
  |.quo|.rem=>if rX P t then .I2 op (bS x) (bS y)else .uv op t (bS x) (bS y)
  |.eql=>if rX P t then .cmp op (bS x) (bS y)else if Lm P t then .uv op t (bS x) (bS y)else(match MI P t with|some k=>.eqv false k (bS x) (bS y)|none=>.raw U)
  |.neq=>if rX P t then .cmp op (bS x) (bS y)else if Lm P t then .uv op t (bS x) (bS y)else(match MI P t with|some k=>.eqv true k (bS x) (bS y)|none=>.raw U)
  |.lss|.leq|.gtr|.geq=>if rX P t then .cmp op (bS x) (bS y)else .uv op t (bS x) (bS y)
  |.shr=>.uv .shr 0 (bS x) (bS y)
  |_=>.uv op t (bS x) (bS y))
 |.unOp op t x=>(match op with
  |.neg=>if rX P t then .neg (bS x)else .raw U
  |.not=>.unop .not (bS x)
  |_=>.raw U)
 |.convert s d x=>if rX P s&&PC P d then .conv 0 0 (bS x)else if PC P s&&rX P d then .conv 1 0 (bS x)else if Lm P s then(match PA P d with|some k=>.Ro k (bS x)|none=>.raw U)else .raw U
 |.fieldAddr t x i=>(match Cf P t i with
  |some f=>if jK P f.type&& !hW (jh P f.type) 0 then .Ai f.offset (bS x)else .raw U
  |none=>.raw U)
 |.field t x i=>(match Cf P t i with
  |some f=>if jK P f.type then .field (qr P f.type) f.offset (jh P f.type) (bS x)else .raw U
  |none=>.raw U)
 |.indexAddr t x i=>(match P.underlying t with
  |some (.slice e)=>if jK P e then .rM (jh P e) (bS x) (bS i)else .raw U
  |some (.array n e)=>if jK P e then .NM n (jh P e) (bS x) (bS i)else .raw U
  |_=>.raw U)
 |.lookup t x k ok=>(match P.underlying t with
  |some (.map j e)=>(match AP P j,LD P e with
   |some h,some z=>.lookup h z (bS x) (bS k) ok
   |_,_=>.raw U)
  |_=>.raw U)
 |.mapUpdate t x k v=>(match P.underlying t with
  |some (.map j _)=>(match AP P j with
   |some h=>.Oj h (bS x) (bS k) (bS v)
   |none=>.raw U)
  |_=>.raw U)
 |.makeSlice t l c=>(match P.underlying t with
  |some (.slice e)=>(match B9 P e with|some (s,b,z)=>.EY t e s b z (bS l) (bS c)|none=>.raw U)
  |_=>.raw U)
 |.slice t x q o j0=>(match P.underlying t,j0 with
  |some (.slice e),none=>if jK P e then .slice (jh P e) (bS x) (q.map bS) (o.map bS)else .raw U
  |_,_=>.raw U)
 |.extract x i=>.extract (bS x) i
 |.makeFunc fn first u=>(match fn with
  |.func f=>if first.size=0 then .Oq f (u.toList.map bS)else .raw U
  |_=>.raw U)
 |.makeMap _ r=>(match r with|none=>.Ot|some _=>.raw U)
 |.range t x=>(match P.underlying t with
  |some (.map _ _)=>.range (bS x)
  |_=>.raw U)
 |.next x s=>if s then .raw U else .next (bS x)
 |.entry x=>.entry (bS x)
 |.call c=>(match c.callee with
  |.builtin .append=>(match c.args.toList,c.argTypes.toList with
   |[x,y],[t,g']=>(match P.underlying t with
    |some (.slice e)=>(match B9 P e with|some (s,b,z)=>if t=g' then .append t e s b z (bS x) (bS y)else .raw U|none=>.raw U)
    |_=>.raw U)
   |_,_=>.raw U)
  |.builtin .len=>(match c.args.toList,c.argTypes.toList with
   |[x],[t]=>(match P.underlying t with
    |some (.slice _)=>.len t (bS x)
    |some (.map _ _)=>.Hb (bS x)
    |some .string=>.Pu (bS x)
    |_=>.raw U)
   |_,_=>.raw U)
  |.builtin .min=>(match c.args.toList with
   |[x,y]=>.Ky false (bS x) (bS y)
   |_=>.raw U)
  |.builtin .max=>(match c.args.toList with
   |[x,y]=>.Ky true (bS x) (bS y)
   |_=>.raw U)
  |.builtin _=>.raw U
  |.value (.func f)=>.call f (c.args.toList.map bS)
  |.value x=>.DF (bS x) (c.args.toList.map bS)
  |.invoke x m=>.invoke m (bS x) (c.args.toList.map bS))
 |_=>.raw U
def ir:lL->Bool
 |.dY _|.pick .. |.load .. |.OD _|.arith .. |.cmp .. |.unop .. |.Ai .. |.rM .. |.NM .. |.len .. |.extract ..
 |.build .. |.eqv .. |.neg _|.Ky .. |.I2 .. |.slice .. |.field .. |.lookup .. |.Hb _|.conv .. |.uv .. |.Ro .. |.Pu _=>true
 |_=>false
def rN:lL->Bool
 |.load .. |.lookup .. |.Hb _=>true
 |_=>false
def EJ:lL->Bool
 |.alloc .. |.box .. |.Gd .. |.EY .. |.set _=>true
 |_=>false
def xF:lL->Bool
 |.append .. =>true
 |_=>false
def J9:lL->Bool
 |.call .. |.DF .. =>true
 |_=>false
def qE:lL->lL
 |.append t e s b z x y=>.IG t e s b z x y
 |.call f a=>.Gf f a
 |.DF x a=>.Rd x a
 |k=>k
def uz(U:cK):cK:={d:=U.d,g:=U.g,k:=qE U.k}
def DW:lL->lL
 |.call f a=>.Zk f a
 |k=>qE k
def Ch(U:cK):cK:={d:=U.d,g:=U.g,k:=DW U.k}
def xI(ops:Array cp):Option (Nat×Bool)->Option (Option (Nat×Bool))
 |none=>some none
 |some (o,b)=>match ops[o]?with
  |some U=>(match U.dst with|some d=>some (some (d,b))|none=>none)
  |none=>none
def fX(ops:Array cp)(U:cp):cK:=
 match xI ops U.guard with
 |some g=>{d:=U.dst,g:=g,k:=bQ P U.op}
 |none=>{d:=U.dst,g:=none,k:=.bad}
def tC(ops:Array cp)(U:cp):Bool:=match U.op with
 |.store _ (.tmp t) _=>ops.toList.any λp=>(match p.op with|.alloc _|.box _ _=>p.dst==some t|_=>false)
 |_=>false
def ZC(ops:Array cp)(b:Array Nat)(i x:Nat):Bool:=
 match ops[i]?,ops[x]?with
 |some cv,some a=>rN (bQ P cv.op)&& !(ir (bQ P a.op)||EJ (bQ P a.op)||xF (bQ P a.op)||J9 (bQ P a.op)||tC ops a||(b.getD x 0).testBit i||(b.getD i 0).testBit x)
 |_,_=>false
def qJ(ops:Array cp)(b:Array Nat)(i:Nat):Bool:=(fL ops.size).any λx=>i !=x&&ZC P ops b i x
def EK(ops:Array cp)(b:Array Nat)(i:Nat)(U:cp):Bool:=ir (bQ P U.op)&& !qJ P ops b i
def OT(ops:Array cp)(b:Array Nat)(i x:Nat):Bool:=
 match ops[i]?,ops[x]?with
 |some cv,some f=>
  let qV:=(b.getD x 0).testBit i;let e:=(b.getD i 0).testBit x;let a:=EK P ops b i cv;let c:=EK P ops b x f
  (match f.dst with
   |some d=>(!(cv.looksAt ops).contains d||e||(!c&&qV))&&(cv.dst !=some d||(!c&&qV)||(!a&&e))
   |none=>true)
 |_,_=>true
def OH(ops:Array cp):Bool:=
 let b:=eR ops
 Region.noSelect ops&&(fL ops.size).all λi=>
  (match ops[i]?with
   |some U=>(U.after.toList.all λe=>!rr .any e||decide (e.on<i))&&(!ir (bQ P U.op)||(match U.dst with|some d=>!(U.looksAt ops).contains d|none=>false))
   |none=>true)&&
  (fL ops.size).all λx=>i==x||OT P ops b i x
def Ak(cm:List Nat)(U:cp):Bool:=match bQ P U.op with
 |.call f _=>cm.contains f
 |_=>false
def pN(cm:List Nat)(ops:Array cp)(b:Array Nat)(i:Nat):Bool:=(fL ops.size).any λx=>(match ops[x]?with|some a=>xF (bQ P a.op)||Ak P cm a||tC ops a|none=>false)&& !(b.getD x 0).testBit i&& !(b.getD i 0).testBit x
def qu(cm:List Nat)(ops:Array cp)(b:Array Nat)(i:Nat):Bool:=(fL ops.size).any λx=>(match ops[x]?with|some a=>Ak P cm a|none=>false)&& !(b.getD x 0).testBit i&& !(b.getD i 0).testBit x
def alone(cm:List Nat)(ops:Array cp)(b:Array Nat)(i:Nat)(U:cp):Bool:=
 (match bQ P U.op with
  |.call f _=>cm.contains f
  |.DF (.t n) _=>cm.contains (n+1000)
  |_=>false)&&
 (fL ops.size).all λo=>i==o||(match ops[o]?with|some a=>!rN (bQ P a.op)||(b.getD o 0).testBit i||(b.getD i 0).testBit o|none=>true)
def ke(cm:List Nat)(ops:Array cp)(b:Array Nat)(i:Nat)(U:cp):cK:=match alone P cm ops b i U with
 |true=>fX P ops U
 |false=>match Ak P cm U with
  |true=>Ch (fX P ops U)
  |false=>uz (fX P ops U)
def Kr:List cp->Nat
 |[]=>1000000
 |U::l=>match U.dst with|some d=>Nat.min d (Kr l)|none=>Kr l
def vP(cm:List Nat)(ops:Array cp)(U:cp):Option Nat:=match bQ P U.op with
 |.call f _=>bif cm.contains (f+2000)then some (Kr ops.toList)else none
 |_=>none
def Kv(cm:List Nat)(ops:Array cp)(b:Array Nat):List cp->Nat->List vu
 |[],_=>[]
 |U::l,i=>{U:=ke P cm ops b i U,after:=(U.after.toList.filter (rr .any)).map (·.on),m:=pN P cm ops b i,x:=qJ P ops b i,y:=tC ops U,z:=qu P cm ops b i,q:=vP P cm ops U}::Kv cm ops b l (i+1)
abbrev rt:=List (Nat×vu)
def EV(l:List Nat)(i:Nat):Bool:=match l with
 |[]=>false
 |x::r=>hW x i||EV r i
def wy(done:List Nat):List Nat->Bool
 |[]=>true
 |o::r=>EV done o&&wy done r
def zc(done:List Nat):rt->Option (Nat×vu×rt)
 |[]=>none
 |(i,U)::r=>bif ir U.U.k&& !U.x&&wy done U.after then some (i,U,r)else match zc done r with
  |some (o,p,a)=>some (o,p,(i,U)::a)
  |none=>none
def E8(done:List Nat):rt->rt->List (Nat×vu×rt)
 |[],_=>[]
 |(i,U)::r,pre=>bif wy done U.after then(i,U,pre++r)::E8 done r (pre++[(i,U)])else E8 done r (pre++[(i,U)])
def E0{α:Type}:List α->Nat->List (Nat×α)
 |[],_=>[]
 |x::l,k=>(k,x)::E0 l (k+1)
def G5:List (vu×j4)->j4
 |[]=>.top
 |[(U,t)]=>(match U.q with|none=>.w U.U U.y t|some q=>.d q U.U U.y t)
 |(U,t)::x::l=>(match U.q with|none=>.two U.U U.y t (G5 (x::l))|some q=>.ai9 q U.U U.y t (G5 (x::l)))
def E9:Nat->List Nat->rt->j4
 |_,_,[]=>.nil
 |0,_,_::_=>.bot
 |f+1,done,x::r=>match zc done (x::r)with
  |some (i,U,a)=>.v U.U U.m U.z (E9 f (i::done) a)
  |none=>G5 ((E8 done (x::r) []).map λy=>(y.2.1,E9 f (y.1::done) y.2.2))
def VA(ops:List vu):j4:=E9 ops.length [] (E0 ops 0)
def lower(cm:List Nat):Code->IR
 |.skip=>.skip
 |.region _ ops false=>.cd (ops.toList.map (fX P ops))
 |.region _ ops true=>if OH P ops then .y9 (VA (Kv P cm ops (eR ops) ops.toList 0))else .bad
 |.seq a b=>.seq (lower cm a) (lower cm b)
 |.cond c a b=>.cond (bS c) (lower cm a) (lower cm b)
 |.block i b=>.block i (lower cm b)
 |.loop b=>.loop (lower cm b)
 |.exit i=>.exit i
 |.scope b=>.scope (lower cm b)
 |.label _=>.label
 |.ret=>.ret
 |.rangeFunc f d a b=>.aCo (bS f) d.toList (lower cm a) (lower cm b)
 |_=>.bad
end
abbrev J:=Nat->Option Obj
variable {h:J}
def J.cell?(h:J)(a:aI):Option ax:=match h a.block with
 |some (.cells c _ _)=>if a.spot.isSome then none else c[a.off]?
 |_=>none
def J.le(h aa:J):Prop:=∀o U,h o=some U->aa o=some U
def J.put(h:J)(b:Nat)(U:Obj):J:=λo=>if o=b then some U else h o
def J.del(h:J)(b:Nat):J:=λo=>if o=b then none else h o
def J.of(w:bw):J:=λo=>w.heap[o]?
def ng(h:J)(w:bw):Prop:=∀o U,h o=some U->w.heap[o]?=some U
theorem J.le_refl(h:J):h.le h:=λ_ _ e=>e
theorem J.le_trans{a b c:J}(x:a.le b)(y:b.le c):a.le c:=λo U e=>y o U (x o U e)
theorem J.la{aa:J}(x:h.le aa)(e:h.cell? a=some v):aa.cell? a=some v:=by
 unfold J.cell? at*;cases b:h a.block with
 |none=>grind
 |some U=>rw[b]at e;rw[x _ _ b];exact e
theorem ng.cell(x:ng h w)(e:h.cell? a=some v):w.cell? a=some v:=by
 unfold J.cell? at e;unfold Mf;cases b:h a.block with
 |none=>grind
 |some U=>rw[b]at e;rw[x _ _ b];exact e
theorem ng.mono{aa:J}(x:ng aa w)(y:h.le aa):ng h w:=λo U e=>x o U (y o U e)
theorem J.dI{U:Obj}(a:h b=none):h.le (h.put b U):=λo c e=>by
 unfold J.put
 grind
theorem J.b1(h:J) b U:h.put b U b=some U:=by simp[J.put]
theorem J.cB(h:J) U(e:o≠b):h.put b U o=h o:=by simp[J.put,e]
theorem J.Gn(h:J) b:h.del b b=none:=by simp[J.del]
theorem J.mJ(h:J)(e:o≠b):h.del b o=h o:=by simp[J.del,e]
theorem J.ZR(h:J) b:(h.del b).le h:=λo U e=>by
 unfold J.del at e
 grind
structure Ext(h:J)(w:bw)(aa:J)(bk:bw):Prop where
 hw:ng aa bk
 os:bk.os=w.os
 tape:bk.tape=w.tape
 output:bk.output=w.output
 size:w.heap.size<=bk.heap.size
 frame:∀o,o<w.heap.size->h o=none->bk.heap[o]?=w.heap[o]?
 fresh:∀o,aa o≠none->h o≠none\/w.heap.size<=o
structure Fn(P:eN)(f:l4)(args:Array ax)(h:J)(Q:ax->J->Prop):Prop where
 body:∃fn,P.funcs[f]?=some fn/\fn.body.isSome=true/\(fn.name== "runtime.NumGoroutine")=false
 run:∀w,ng h w->Calls P f args w λe bk=>∃v aa,e= .returned v/\Q v aa/\Ext h w aa bk
theorem Fn.mono{P:eN}{f:l4}{args:Array ax}{h:J}{Q d:ax->J->Prop}(x:Fn P f args h Q)(y:∀v aa,Q v aa->d v aa):Fn P f args h d:=⟨x.body,λw hw=>(x.run w hw).mono λ_ _⟨v,aa,a,b,c⟩=>⟨v,aa,a,y _ _ b,c⟩⟩
inductive aK where
 |v (x:ax)
 |p (i off:Nat)
 |s (i off len cap:Nat)
 |m (i:Nat)
 |a (xs:List aK)
 deriving Inhabited
variable {V:aK->Prop}
abbrev cy:=Nat->aK
def aK.c1(β:Nat->Nat):aK->ax
 |.v x=>x
 |.p i off=>.pointer (some ⟨β i,off,none⟩)
 |.s i off len cap=>.slice (some ⟨β i,off,none⟩) len cap
 |.m i=>.map (some (β i))
 |.a _=>fp
def aK.c(β:Nat->Nat):aK->ax
 |.a xs=>.agg (xs.map (aK.c1 β)).toArray
 |bH=>bH.c1 β
inductive LE where
 |own (cells:List aK) (ty:Nat)
 |b4 (b:Nat)
 |row (bK size:Nat) (A:Option aI) (n cap:Nat) (xs:List ax)
 |map (f:List Int->Option ax) (n:Nat)
 |gone
 deriving Inhabited
variable {L:List LE}
def cz{α:Type}:List α->Nat->Option α
 |[],_=>none
 |x::_,0=>some x
 |_::l,n+1=>cz l n
def gV{α:Type}:List α->Nat->α->List α
 |[],_,_=>[]
 |_::l,0,y=>y::l
 |x::l,n+1,y=>x::gV l n y
def takeN{α:Type}:Nat->List α->Option (List α)
 |0,_=>some []
 |_+1,[]=>none
 |n+1,x::l=>match takeN n l with|some r=>some (x::r)|none=>none
def sub{α:Type}(l:List α):Nat->Nat->Option (List α)
 |0,n=>takeN n l
 |off+1,n=>match l with|[]=>none|_::l=>sub l off n
def over{α:Type}:List α->Nat->List α->Option (List α)
 |l,0,[]=>some l
 |[],0,_::_=>none
 |_::l,0,y::aO=>match over l 0 aO with|some r=>some (y::r)|none=>none
 |[],_+1,_=>none
 |x::l,off+1,aO=>match over l off aO with|some r=>some (x::r)|none=>none
theorem qj(l:List α):∀n,cz l n=l[n]? :=by
 induction l with
 |nil=>simp[cz]
 |cons x l a=>intro n;cases n<;>simp[cz,a]
theorem HP(l:List α) y:∀n,gV l n y=l.set n y:=by
 induction l with
 |nil=>simp[gV]
 |cons x l a=>intro n;cases n<;>simp[gV,a]
theorem aiI{α:Type}:∀n(l r:List α),takeN n l=some r->r=l.take n/\r.length=n
 |0,l,r,h=>by grind [takeN]
 |n+1,[],r,h=>by grind [takeN]
 |n+1,x::l,r,h=>by
  simp only[takeN]at h;split at h;rename_i d c;injection h with h;subst h;obtain⟨a,b⟩:=aiI n l d c
  grind
  grind
theorem sub_eq{α:Type}:∀off n(l r:List α),sub l off n=some r->r=(l.drop off).take n/\r.length=n
 |0,n,l,r,h=>by simpa[sub]using aiI n l r (by grind [sub])
 |off+1,n,[],r,h=>by grind [sub]
 |off+1,n,x::l,r,h=>by simpa using sub_eq off n l r (by grind [sub])
theorem KN{α:Type}:∀off(l aO r:List α),over l off aO=some r->r.length=l.length/\off+aO.length<=l.length/\(∀o,r[o]?=if off<=o/\o<off+aO.length then aO[o-off]?else l[o]?)
 |0,l,[],r,h=>by
  grind [over]
 |0,[],y::aO,r,h=>by grind [over]
 |0,x::l,y::aO,r,h=>by
  simp only[over]at h;split at h;rename_i e d;injection h with h;subst h;obtain⟨a,b,c⟩:=KN 0 l aO e d
  grind
  grind
 |off+1,[],aO,r,h=>by grind [over]
 |off+1,x::l,aO,r,h=>by
  simp only[over]at h;split at h;rename_i e d;injection h with h;subst h;obtain⟨a,b,c⟩:=KN off l aO e d
  grind
  grind
def ji(e:cy)(d:Nat)(x:aK):cy:=λi=>bif hW i d then x else e i
def lH(e:cy):List Nat->List aK->cy
 |d::a,x::xs=>lH (ji e d x) a xs
 |_,_=>e
def one:aK->Bool
 |.v (.agg _)|.v (.tuple _)|.a _=>false
 |_=>true
def Hw:List aK->Bool
 |[]=>true
 |x::l=>one x&&Hw l
def cellsOf:aK->Option (List aK)
 |.a xs=>some xs
 |.v (.agg cs)=>some (cs.toList.map .v)
 |.v (.tuple _)=>none
 |x=>some [x]
def zf(L:List LE):aK->Option ax
 |.v x=>some x
 |.p i off=>match cz L i with|some (.b4 b)=>some (.pointer (some ⟨b,off,none⟩))|_=>none
 |.s i off len cap=>match cz L i with|some (.b4 b)=>some (.slice (some ⟨b,off,none⟩) len cap)|_=>none
 |.m i=>match cz L i with|some (.b4 b)=>some (.map (some b))|_=>none
 |.a _=>none
def q7(L:List LE):List aK->Option (List ax)
 |[]=>some []
 |x::l=>match zf L x,q7 L l with|some v,some r=>some (v::r)|_,_=>none
def raw(L:List LE):aK->Option ax
 |.a xs=>match q7 L xs with|some r=>some (.agg r.toArray)|none=>none
 |x=>zf L x
def ph(L:List LE):List aK->Option (List ax)
 |[]=>some []
 |x::l=>match raw L x,ph L l with|some v,some r=>some (v::r)|_,_=>none
def Oz(L:List LE):aK->Option Nat
 |.p i _|.s i _ _ _=>match cz L i with|some (.own _ _)=>some i|_=>none
 |.m i=>match cz L i with|some (.map _ _)=>some i|_=>none
 |_=>none
def KA(L:List LE):List aK->Option Nat
 |[]=>none
 |x::l=>match Oz L x with|some i=>some i|none=>KA L l
def afY(L:List LE):aK->Option Nat
 |.a xs=>KA L xs
 |x=>Oz L x
def Kz(L:List LE):List aK->Option Nat
 |[]=>none
 |x::l=>match afY L x with|some i=>some i|none=>Kz L l
def fT(b:Bool)(x y:Prop):Prop:=match b with|true=>x|false=>y
theorem uw{b:Bool}{x y:Prop}(t:b=true->x)(f:b=false->y):fT b x y:=by
 cases b;exact f rfl;exact t rfl
theorem aY{c:Prop}[Decidable c]{x y:Prop}(t:c->x)(f:¬c->y):fT (decide c) x y:=uw (λh=>t (q2 h)) (λh=>f (y' h))
inductive P8(L:List LE)(h:J)(a:aI)(V:aK->Prop):Prop
 |hp (v:ax) (ay:h.cell? a=some v) (k:V (.v v))
 |row (i bK size:Nat) (g:aI) (n cap:Nat) (xs:List ax) (o:Nat) (v:ax) (ai:cz L i=some (.row bK size (some g) n cap xs)) (aV:a=g.add o) (an:xs[o]?=some v) (k:V (.v v))
inductive P9(L:List LE)(h:J)(a:aI)(n:Nat)(V:aK->Prop):Prop
 |hp (aG:List ax) (ak:aG.length=n) (ay:∀o v,aG[o]?=some v->h.cell? (a.add o)=some v) (k:V (.a (aG.map .v)))
 |row (i bK size:Nat) (g:aI) (m cap:Nat) (xs:List ax) (o:Nat) (aG:List ax) (ai:cz L i=some (.row bK size (some g) m cap xs)) (aV:a=g.add o) (ak:aG.length=n)
  (an:∀k v,aG[k]?=some v->xs[o+k]?=some v) (k:V (.a (aG.map .v)))
inductive FL(A:Option aI)(n:Nat)(z:Int)(V:aI->Prop):Prop
 |mk (a:aI) (aV:A=some a) (al:0<=z) (h1:z<n) (k:V a)
inductive Xw(n:Nat)(z:Int)(V:Prop):Prop
 |mk (al:0<=z) (h1:z<n) (k:V)
inductive Xy(n:Nat)(z:Int)(V:Nat->Prop):Prop
 |mk (al:0<=z) (h1:z<n) (k:V z.toNat)
def ML(n:Nat)(z:Int)(V:Nat->Prop):Prop:=match z with
 |.ofNat k=>bif Qu k n then V k else False
 |.negSucc _=>False
theorem aap{V:Nat->Prop}(h:ML n z V):0<=z/\z<n/\V z.toNat:=by
 unfold ML at h;split at h;simp_all
 grind
inductive zE(z:Int)(V:Int->Prop):Prop
 |ok (al: -9223372036854775808<=z) (h1:z<=9223372036854775807) (k:V z)
 |wrap (k:V (IntKind.i64.wrap z))
theorem FL.m{A:Option aI}{V:aI->Prop}(a:aI)(b:A=some a)(k:V a)(al:0<=z:=by omega)(h1:z<n:=by omega):FL A n z V:=.mk a b al h1 k
theorem FL.r{V:aI->Prop}(k:V a)(al:0<=z:=by omega)(h1:z<n:=by omega):FL (some a) n z V:=.mk a rfl al h1 k
theorem zE.bg{V:Int->Prop}(k:V z)(al: -9223372036854775808<=z:=by omega)(h1:z<=9223372036854775807:=by omega):zE z V:=.ok al h1 k
inductive LK(da:zJ)(z:Int)(V:Int->Prop):Prop
 |mk (al:0<=z) (h1:z<=9223372036854775807) (k:V z)
 |wrap (k:V (da.wrap z))
inductive FK(op:s4)(qX:zJ)(x:Int)(qY:zJ)(y:Int)(V:aK->Prop):Prop
 |mk (v:ax) (af:∀(P:eN)(w:bw),(binOp op 0 (.int qX x) (.int qY y)).run P w= .ok v w) (k:V (.v v))
def MK(op:s4)(a b:Int)(V:aK->Prop)(c:Prop):Prop:=match op with
 |.eql=>V (.v (.bool (decide (a=b))))
 |.neq=>V (.v (.bool (decide (a≠b))))
 |.lss=>V (.v (.bool (decide (a<b))))
 |.leq=>V (.v (.bool (decide (a<=b))))
 |.gtr=>V (.v (.bool (decide (b<a))))
 |.geq=>V (.v (.bool (decide (b<=a))))
 |_=>c
inductive Xx(y:Int)(V:Prop):Prop
 |mk (h:y≠0) (k:V)
def Rk:s4->Int->Int->Bool
 |.eql,x,y=>decide (x=y)
 |.neq,x,y=>decide (x≠y)
 |.lss,x,y=>decide (x<y)
 |.leq,x,y=>decide (x<=y)
 |.gtr,x,y=>decide (y<x)
 |_,x,y=>decide (y<=x)
def eb.get(e:cy):eb->aK
 |.t n=>e n
 |.c v=>.v v
 |.mN g=>.v (.pointer (some ⟨g,0,none⟩))
 |.fn f=>.v (.func (.func f) #[] #[])
def force(x:aK)(V:aK->Prop):Prop:=match x with
 |.v y=>V (.v y)
 |.p i off=>V (.p i off)
 |.s i off len cap=>V (.s i off len cap)
 |.m i=>V (.m i)
 |.a xs=>V (.a xs)
theorem force_eq x V:force x V=V x:=by cases x<;>rfl
def flip(neg b:Bool):Bool:=match neg with|true=>!b|false=>b
def Aj:List aK->List (Nat×Nat×aK)->Option (List aK)
 |cs,[]=>some cs
 |cs,(off,size,x)::r=>match cellsOf x with
  |some aO=>bif hW aO.length size then(match over cs off aO with|some a=>Aj a r|none=>none)else none
  |none=>none
def Dz:aK->Option (List aK)
 |.a xs=>some xs
 |.v (.agg cs)=>some (cs.toList.map .v)
 |_=>none
def Hz(e:cy):Option eb->Option aK
 |none=>none
 |some x=>some (x.get e)
inductive H7(A:Option aI)(n cap:Nat)(size:Nat)(cQ ai:Int)(V:aK->Prop):Prop
 |mk (l k:Nat) (ak:cQ=l) (hk:ai=k) (al:l<=k) (h1:k<=cap) (b0:∀B,(l<cap->B=A.map (·.add (l*size)))->(l=cap->B=A)->V (.v (.slice B (k-l) (cap-l))))
def yy:List aK->List aK->Option Bool
 |[],[]=>some true
 |.v (.int .i64 a)::l,.v (.int .i64 b)::r=>match yy l r with|some t=>some (decide (a=b)&&t)|none=>none
 |_,_=>none
structure il where
 k:List Int
 v:ax
 born:Nat
def km(b:Nat)(k:List Int):ax:=match b with
 |0=>(match k with|[a]=>.int .i64 a|_=>fp)
 |_=>.agg (k.map (Value.int .i64)).toArray
def kh(a:Nat)(x:il):BB:={key:=km a x.k,val:=x.v,born:=x.born}
def kb(a:Nat)(l:List il)(b:Nat):Obj:=.map (l.map (kh a)).toArray b
def tG:Nat->Nat
 |0=>1
 |n=>n-5
def jC:List il->List Int->Option ax
 |[],_=>none
 |x::l,k=>if k=x.k then some x.v else jC l k
def upsert:List il->List Int->ax->Nat->List il
 |[],k,v,c=>[⟨k,v,c⟩]
 |x::l,k,v,c=>if k=x.k then⟨x.k,v,x.born⟩::l else x::upsert l k v c
structure yb(h:J)(b b0:Nat)(l:List il)(cq:Nat):Prop where
 at_:h b=some (kb b0 l cq)
 keys:∀x∈l,x.k.length=tG b0
def ints:List aK->Option (List Int)
 |[]=>some []
 |.v (.int .i64 a)::l=>match ints l with|some r=>some (a::r)|none=>none
 |_=>none
def NZ(b:Nat)(x:aK):Option (List Int):=match b with
 |0=>(match x with|.v (.int .i64 a)=>some [a]|_=>none)
 |b=>(match Dz x with
  |some xs=>(match ints xs with|some c=>bif hW (c.length+5) b then some c else none|none=>none)
  |none=>none)
inductive akh(h:J)(b b0:Nat)(dJ:List Int)(V:Option ax->Prop):Prop
 |mk (l:List il) (cq:Nat) (hm:yb h b b0 l cq) (k:V (jC l dJ))
inductive akj(h:J)(b:Nat)(V:Int->Prop):Prop
 |mk (b0:Nat) (l:List il) (cq:Nat) (hm:yb h b b0 l cq) (k:V l.length)
def RL(op:s4)(x y:aK)(V:aK->Prop):Prop:=match x,y with
 |.v (.int .u8 a),.v (.int .u8 b)=>MK op a b V (FK op .u8 a .u8 b V)
 |.v (.int .u64 a),.v (.int .u64 b)=>MK op a b V (FK op .u64 a .u64 b V)
 |.v (.int c a),.v (.int d b)=>FK op c a d b V
 |_,_=>False
def fh(k:lL)(e:cy)(L:List LE)(h:J)(V:aK->Prop):Prop:=
 match k with
 |.dY x=>force (x.get e) V
 |.pick c a b=>(match c.get e with
  |.v (.bool t)=>fT t (force (a.get e) V) (force (b.get e) V)
  |_=>False)
 |.load true n x=>(match x.get e with
  |.p i off=>(match cz L i with
   |some (.own cs _)=>(match sub cs off n with|some r=>V (.a r)|none=>False)
   |some (.b4 b)=>P9 L h ⟨b,off,none⟩ n V
   |_=>False)
  |.v (.pointer (some a))=>P9 L h a n V
  |_=>False)
 |.load false _ x=>(match x.get e with
  |.p i off=>(match cz L i with
   |some (.own cs _)=>(match cz cs off with|some (.a _)=>False|some r=>V r|none=>False)
   |some (.b4 b)=>P8 L h ⟨b,off,none⟩ V
   |_=>False)
  |.v (.pointer (some a))=>P8 L h a V
  |_=>False)
 |.OD x=>(match x.get e with
  |.p i off=>V (.p i off)
  |.v (.pointer (some a))=>V (.v (.pointer (some a)))
  |_=>False)
 |.arith op x y=>(match x.get e,y.get e with
  |.v (.int .i64 a),.v (.int .i64 b)=>(match op with
   |.add=>zE (a+b) λz=>V (.v (.int .i64 z))
   |.sub=>zE (a-b) λz=>V (.v (.int .i64 z))
   |.mul=>zE (a*b) λz=>V (.v (.int .i64 z))
   |_=>False)
  |_,_=>False)
 |.cmp op x y=>(match x.get e,y.get e with
  |.v (.int .i64 a),.v (.int .i64 b)=>(match op with
   |.eql=>V (.v (.bool (decide (a=b))))
   |.neq=>V (.v (.bool (decide (a≠b))))
   |.lss=>V (.v (.bool (decide (a<b))))
   |.leq=>V (.v (.bool (decide (a<=b))))
   |.gtr=>V (.v (.bool (decide (b<a))))
   |.geq=>V (.v (.bool (decide (b<=a))))
   |_=>False)
  |_,_=>False)
 |.unop .not x=>(match x.get e with
  |.v (.bool b)=>V (.v (.bool (!b)))
  |_=>False)
 |.Ai off x=>(match x.get e with
  |.p i U=>V (.p i (U+off))
  |.v (.pointer (some a))=>V (.v (.pointer (some (a.add off))))
  |_=>False)
 |.rM size x i=>(match x.get e,i.get e with
  |.v (.slice A n _),.v (.int .i64 z)=>FL A n z λa=>V (.v (.pointer (some (a.add (z.toNat*size)))))
  |.s l off n _,.v (.int .i64 z)=>Xw n z (V (.p l (off+z.toNat*size)))
  |.v (.slice A n _),.v (.int .u8 z)=>FL A n z λa=>V (.v (.pointer (some (a.add (z.toNat*size)))))
  |.s l off n _,.v (.int .u8 z)=>Xw n z (V (.p l (off+z.toNat*size)))
  |_,_=>False)
 |.NM len size x i=>(match x.get e,i with
  |.v (.pointer (some a)),.c (.int .i64 z)=>ML len z λk=>V (.v (.pointer (some (a.add (k*size)))))
  |.p l off,.c (.int .i64 z)=>ML len z λk=>V (.p l (off+k*size))
  |.v (.pointer (some a)),.t _=>(match i.get e with
   |.v (.int .i64 z)=>Xy len z λk=>V (.v (.pointer (some (a.add (k*size)))))
   |.v (.int .u64 z)=>Xy len z λk=>V (.v (.pointer (some (a.add (k*size)))))
   |_=>False)
  |_,_=>False)
 |.len _ x=>(match x.get e with
  |.v (.slice _ n _)=>V (.v (.int .i64 n))
  |.s _ _ n _=>V (.v (.int .i64 n))
  |_=>False)
 |.extract x i=>(match x.get e with
  |.v (.tuple aG)=>(match cz aG.toList i with|some v=>V (.v v)|none=>False)
  |_=>False)
 |.build zero parts=>(match Aj (zero.map .v) (parts.map λp=>(p.1,p.2.1,p.2.2.get e))with
  |some cs=>V (.a cs)
  |none=>False)
 |.eqv neg 0 x y=>(match x.get e,y.get e with
  |.v (.bool a),.v (.bool b)=>V (.v (.bool (flip neg (a==b))))
  |_,_=>False)
 |.eqv neg 1 x y=>(match x.get e,y.get e with
  |.v (.pointer A),.v (.pointer none)=>V (.v (.bool (flip neg A.isNone)))
  |.p _ _,.v (.pointer none)=>V (.v (.bool neg))
  |_,_=>False)
 |.eqv neg 2 x y=>(match x.get e,y.get e with
  |.v (.slice A _ _),.v (.slice none _ _)=>V (.v (.bool (flip neg A.isNone)))
  |.s _ _ _ _,.v (.slice none _ _)=>V (.v (.bool neg))
  |_,_=>False)
 |.eqv neg 3 x y=>(match x.get e,y.get e with
  |.v .nilFunc,.v .nilFunc=>V (.v (.bool (flip neg true)))
  |.v (.func _ _ _),.v .nilFunc=>V (.v (.bool neg))
  |_,_=>False)
 |.eqv neg (n+5) x y=>(match Dz (x.get e),Dz (y.get e)with
  |some xs,some aO=>bif hW xs.length n&&hW aO.length n then(match yy xs aO with|some b=>V (.v (.bool (flip neg b)))|none=>False)else False
  |_,_=>False)
 |.neg x=>(match x.get e with
  |.v (.int .i64 a)=>zE (0-a) λz=>V (.v (.int .i64 z))
  |_=>False)
 |.Ky j0 x y=>(match x.get e,y.get e with
  |.v (.int .i64 a),.v (.int .i64 b)=>(match j0 with
   |true=>V (.v (.int .i64 (max a b)))
   |false=>V (.v (.int .i64 (min a b))))
  |_,_=>False)
 |.I2 op x y=>(match x.get e,y.get e with
  |.v (.int .i64 a),.v (.int .i64 b)=>(match op with
   |.quo=>Xx b (zE (a.tdiv b) λz=>V (.v (.int .i64 z)))
   |.rem=>Xx b (V (.v (.int .i64 (a.tmod b))))
   |_=>False)
  |_,_=>False)
 |.slice size x g f=>(match x.get e,Hz e g,Hz e f with
  |.v (.slice A n cap),none,none=>H7 A n cap size 0 n V
  |.v (.slice A n cap),some (.v (.int .i64 l)),none=>H7 A n cap size l n V
  |.v (.slice A n cap),none,some (.v (.int .i64 k))=>H7 A n cap size 0 k V
  |.v (.slice A n cap),some (.v (.int .i64 l)),some (.v (.int .i64 k))=>H7 A n cap size l k V
  |_,_,_=>False)
 |.field agg off n x=>(match Dz (x.get e)with
  |some cs=>(match agg with
   |true=>(match sub cs off n with|some r=>V (.a r)|none=>False)
   |false=>(match cz cs off with|some (.a _)=>False|some r=>V r|none=>False))
  |none=>False)
 |.lookup d zero x k ok=>(match x.get e,NZ d (k.get e)with
  |.v (.map (some b)),some j=>akh h b d j λr=>(match ok with
   |true=>V (.v (.tuple #[r.getD zero,.bool r.isSome]))
   |false=>V (.v (r.getD zero)))
  |_,_=>False)
 |.Hb x=>(match x.get e with
  |.v (.map (some b))=>akj h b λz=>V (.v (.int .i64 z))
  |_=>False)
 |.conv 0 0 x=>(match x.get e with
  |.v (.int .i64 z)=>LK .u64 z λz=>V (.v (.int .u64 z))
  |_=>False)
 |.conv 1 0 x=>(match x.get e with
  |.v (.int .u64 z)=>LK .i64 z λz=>V (.v (.int .i64 z))
  |_=>False)
 |.Ro k x=>(match x.get e with
  |.v (.int _ z)=>V (.v (.int k (k.wrap z)))
  |_=>False)
 |.Pu x=>(match x.get e with
  |.v (.string s)=>V (.v (.int .i64 s.size))
  |_=>False)
 |.uv .shr 0 x y=>(match x.get e,y.get e with
  |.v (.int .u64 z),.v (.int .u64 1)=>V (.v (.int .u64 (z.fdiv 2)))
  |.v (.int m a),.v (.int o b)=>FK .shr m a o b V
  |_,_=>False)
 |.uv op _ x y=>RL op (x.get e) (y.get e) V
 |_=>False
theorem QX k a v c:∀l,jC (upsert l k v c) a=if a=k then some v else jC l a
 |[]=>by rfl
 |x::l=>by
  simp only[upsert];split;rename_i hk;simp_all[jC,<-hk];rename_i hk;simp only[jC,QX k a v c l]
  grind
def LE.isRow:LE->Bool
 |.row .. =>true
 |_=>false
def fo(L:List LE)(i:Nat):Prop:=∃l,cz L i=some l/\l.isRow=false
def aK.iQ(L:List LE):aK->Prop
 |.p i _|.s i _ _ _|.m i=>fo L i
 |_=>True
def aK.ok(L:List LE):aK->Prop
 |.a xs=>∀x∈xs,x.iQ L
 |x=>x.iQ L
def NY:ax->Option (List Int)
 |.int .i64 a=>some [a]
 |.agg cs=>cs.toList.mapM λ|.int .i64 a=>some a|_=>none
 |_=>none
structure aln(es:Array BB)(f:List Int->Option ax)(n:Nat):Prop where
 size:es.size=n
 keys:∀(i:Nat)(e:BB),es[i]?=some e->∃k,NY e.key=some k/\f k=some e.val
 all:∀k v,f k=some v->∃(i:Nat)(e:BB),es[i]?=some e/\NY e.key=some k/\e.val=v
 inj:∀(i o:Nat)(e bD:BB)(k:List Int),es[i]?=some e->es[o]?=some bD->NY e.key=some k->NY bD.key=some k->i=o
def LE.fu(β:Nat->Nat)(i:Nat)(w:bw):LE->Prop
 |.own cs ty=>w.heap[β i]?=some (.cells (cs.map (aK.c1 β)).toArray ty (0,0))
 |.b4 b=>β i=b
 |.row bK size A n cap xs=>w.ownsRow 0 bK size (.slice A n cap) n xs/\∀g,A=some g->g.block=β i
 |.map f n=>∃es a,w.heap[β i]?=some (.map es a)/\aln es f n
 |.gone=>True
structure kq(β:Nat->Nat)(L:List LE)(h:J)(w:bw):Prop where
 hw:ng h w
 cA:∀i l,cz L i=some l->l.fu β i w
structure dn(n:Nat)(β:Nat->Nat)(L:List LE)(e:cy)(a:Act):Prop where
 defers:a.defers=[]
 size:a.tmps.size=n
 env:∀t,a.tmps.getD t fp=(e t).c β
 ok:∀t,(e t).ok L
theorem aK.Rb{x:aK}(h:∀xs,x≠.a xs):x.c β=x.c1 β:=by
 cases x<;>first|rfl|grind
theorem dn.eval{n:Nat}{L:List LE}{β:Nat->Nat}{e:cy}{a:Act}(r:dn n β L e a) x:a.eval x=((bS x).get e).c β:=by
 cases x with
 |tmp t=>exact r.env t
 |const v=>rfl
 |global g=>rfl
 |func f=>rfl
theorem dn.rU{e:cy}{a:Act}(r:dn n β L e a) x:((bS x).get e).ok L:=by
 cases x with
 |tmp t=>exact r.ok t
 |const v=>trivial
 |global g=>trivial
 |func f=>trivial
theorem add_lit b U k:(nI b U none).add k=⟨b,U+k,none⟩:=by
 unfold LH;simp
theorem vH(a:aI) i o:(a.add i).add o=a.add (i+o):=by
 unfold LH
 grind
section
variable {P:eN}{w:bw}
theorem run_loadCellsFrom a:∀(aG:List ax) i b,(∀o v,aG[o]?=some v->w.cell? (a.add (i+o))=some v)->(ayX a i aG.length b).run P w= .ok (b++aG.toArray) w
 |[],i,b,_=>by rfl
 |v::aG,i,b,h=>by
  have al:w.cell? (a.add i)=some v:=h 0 v rfl;simp only[iv,ayX,ic,run_load,al,im];rw[run_loadCellsFrom a aG (i+1) (b.push v) (λo u hu=>by have:=h (o+1) u aJ;grind)];simp
theorem run_loadCells a(aG:List ax)(h:∀o v,aG[o]?=some v->w.cell? (a.add o)=some v):(loadCells a aG.length).run P w= .ok aG.toArray w:=by
 unfold loadCells;rw[run_loadCellsFrom a aG 0 #[] aJ];simp
theorem Pf(h:P.underlying t≠none):(isAgg t).run P w= .ok (qr P t) w:=by
 unfold isAgg qr;cases hu:P.underlying t with
 |none=>grind
 |some d=>cases d<;>simp[underlying,hu]
theorem run_sizeOf{i:BP}(h:P.info? t=some i):(sizeOf t).run P w= .ok i.size w:=by
 simp[sizeOf,Ba,h]
theorem zr{i:BP}(h:P.info? t=some i):jh P t=i.size:=by simp[jh,h]
end
theorem Pm(s:kq β L h w){i:Nat}{cs:List aK}{ty:Nat}(b:cz L i=some (.own cs ty)){off:Nat}{x:aK}(a:cs[off]?=some x):w.cell? ⟨β i,off,none⟩=some (x.c1 β):=by
 have:=s.cA i _ b;simp_all[LE.fu,Mf,this,a]
theorem Wi(s:kq β L h w){i bK size cap:Nat}{g:aI}{xs:List ax}(d:cz L i=some (.row bK size (some g) n cap xs))(m:xs[o]?=some v):w.cell? (g.add o)=some v:=by
 obtain⟨⟨_,f⟩,_⟩:=s.cA i _ d;rcases f with⟨al,_⟩|⟨b,c,j,k,_,e,_,_,_,l⟩
 grind
 injection k with a _ _;injection a with a;subst a;rw[add_lit];have ay:j[o]?=some v:=by
  grind
 simp[Mf,e,ay]
section
variable {P:eN}{n:Nat}{β:Nat->Nat}{L:List LE}{h:J}{e:cy}{a:Act}
theorem z'{bu:List LE}{x:aK}(a:x.iQ L)(hm:∀i,fo L i->fo bu i):x.iQ bu:=by
 cases x<;>simp only[aK.iQ]at* <;>exact hm _ a
theorem aAA{bu:List LE}{x:aK}(b:x.ok L)(hm:∀i,fo L i->fo bu i):x.ok bu:=by
 cases x with
 |a xs=>exactλy c=>z' (b y c) hm
 |_=>simp only[aK.ok]at*;exact z' b hm
def Yields(P:eN)(U:cp)(a:Act)(β:Nat->Nat)(L:List LE)(h:J)(bH:aK):Prop:=∀w,kq β L h w->(dk a.eval U).run P w= .ok (.value (bH.c β)) w
theorem ny{l:List α}{i:Nat}{x:α}(h:cz l i=some x):i<l.length:=by
 rw[qj]at h
 grind
theorem aaD(c:dn n β L e a){U:cp}(d:U.op= .move x)(b:fh (.dY (bS x)) e L h V):∃bH,V bH/\bH.ok L/\Yields P U a β L h bH:=by
 simp only[fh,force_eq]at b;refine⟨_,b,c.rU x,λw _=>?_⟩;simp[dk,d,c.eval x]
theorem aaF(b:dn n β L e a){U:cp}{c:fM}(f:U.op= .pick c x y)(d:fh (.pick (bS c) (bS x) (bS y)) e L h V):∃bH,V bH/\bH.ok L/\Yields P U a β L h bH:=by
 simp only[fh,force_eq]at d;split at d;rename_i t ay;cases t with
 |true=>exact⟨_,d,b.rU x,λw _=>by simp[dk,f,b.eval c,ay,aK.c,aK.c1,asBool,b.eval x]⟩
 |false=>exact⟨_,d,b.rU y,λw _=>by simp[dk,f,b.eval c,ay,aK.c,aK.c1,asBool,b.eval y]⟩
 grind
theorem zq(a:jK P t=true):∃i,P.info? t=some i:=by
 simp only[jK,h0,Qy]at a
 grind
theorem PB(a:jK P t=true):P.underlying t≠none:=by
 simp only[jK,h0,Qy]at a
 grind
theorem V7(c:jK P t=true)(b:qr P t=false){a:aI}(ay:w.cell? a=some v):(Uw t a).run P w= .ok v w:=by
 simp[Uw,Pf (PB c),b,ay]
theorem V6(c:jK P t=true)(d:qr P t=true){a:aI}{aG:List ax}(ak:aG.length=jh P t)(ay:∀o v,aG[o]?=some v->w.cell? (a.add o)=some v):(Uw t a).run P w= .ok (.agg aG.toArray) w:=by
 obtain⟨i,b⟩:=zq c;have e:i.size=aG.length:=by rw[ak,zr b]
 simp[Uw,Pf (PB c),d,run_sizeOf b,e,run_loadCells a aG ay]
theorem aAC{cs:List aK}(b:∀x∈cs,x.iQ L){i:Nat}{x:aK}(a:cz cs i=some x):x.iQ L:=by
 rw[qj]at a
 grind
theorem agp{x:aK}(b:x.iQ L)(c:∀xs,x≠.a xs):x.ok L:=by
 cases x with
 |a xs=>grind
 |_=>exact b
def dN(L:List LE):Prop:=∀i cs ty,cz L i=some (.own cs ty)->∀x∈cs,x.iQ L
theorem DE β(aG:List ax):(aG.map aK.v).map (aK.c1 β)=aG:=by
 induction aG with
 |nil=>rfl
 |cons v aG a=>simp only[ec,a];rfl
theorem Zj β(aG:List ax):aK.c β (.a (aG.map .v))= .agg aG.toArray:=by
 show IC ((aG.map aK.v).map (aK.c1 β)).toArray=_;rw[DE]
theorem agq L(aG:List ax):aK.ok L (.a (aG.map .v)):=by
 intro x b;obtain⟨v,_,rfl⟩:=cU.1 b;trivial
theorem Wh(hw:kq β L h w){i off:Nat}(a:cz L i=some (.b4 b)):aK.c β (.p i off)= .pointer (some ⟨b,off,none⟩):=by
 have:=hw.cA i _ a;simp only[LE.fu]at this;subst this;rfl
theorem RO(F:dn n β L e a)(E:dN L){U:cp}(p:U.op= .load t x)(u:jK P t=true)(d:fh (.load (qr P t) (jh P t) (bS x)) e L h V):∃bH,V bH/\bH.ok L/\Yields P U a β L h bH:=by
 have s:=F.eval x;cases l:qr P t with
 |true=>
  simp only[l,fh]at d;have raw:∀j:aI,(∀w,kq β L h w->((bS x).get e).c β= .pointer (some j))->P9 L h j (jh P t) V->∃bH,V bH/\bH.ok L/\Yields P U a β L h bH:=by
   intro j hp ak;cases ak with
   |hp aG ak ay k=>
    refine⟨_,k,agq _ _,λw hw=>?_⟩;rw[Zj];simp[dk,p,s,hp w hw,Bs,qz,V6 u l ak (λo v e=>hw.hw.cell (ay o v e))]
   |row i bK size g m cap xs o aG f C ak A k=>
    refine⟨_,k,agq _ _,λw hw=>?_⟩;subst C;rw[Zj];simp[dk,p,s,hp w hw,Bs,qz,V6 u l ak (λq v e=>by rw[vH];exact Wi hw f (A q v e))]
  split at d;rename_i i off hp;split at d;rename_i cs ty f;split at d;rename_i r z;obtain⟨J,K⟩:=sub_eq _ _ _ _ z;refine⟨_,d,?_,λw hw=>?_⟩;show∀y∈r,y.iQ L;intro y B;rw[J]at B;exact E i cs ty f y (List.mem_of_mem_drop (List.mem_of_mem_take B));have I:∀o v,(r.map (aK.c1 β))[o]?=some v->w.cell? ((nI (β i) off none).add o)=some v:=by
   intro o v e;rw[List.getElem?_map,Option.map_eq_some_iff]at e;obtain⟨y,B,rfl⟩:=e;rw[add_lit];refine Pm hw f ?_
   grind
  have H:(r.map (aK.c1 β)).length=jh P t:=aJ;simp[dk,p,s,hp,aK.c,aK.c1,Bs,qz,V6 u l H I]
  grind
  rename_i b f;exact raw ⟨b,off,none⟩ (λw hw=>by rw[hp];exact Wh hw f) d
  grind
  rename_i j hp;exact raw j (λ_ _=>by rw[hp];rfl) d
  grind
 |false=>
  simp only[l,fh]at d;have raw:∀j:aI,(∀w,kq β L h w->((bS x).get e).c β= .pointer (some j))->P8 L h j V->∃bH,V bH/\bH.ok L/\Yields P U a β L h bH:=by
   intro j hp ak;cases ak with
   |hp v ay k=>
    refine⟨_,k,trivial,λw hw=>?_⟩;show _=alQ (alG v) w;simp[dk,p,s,hp w hw,Bs,qz,V7 u l (hw.hw.cell ay)]
   |row i bK size g m cap xs o v f C A k=>
    refine⟨_,k,trivial,λw hw=>?_⟩;subst C;show _=alQ (alG v) w;simp[dk,p,s,hp w hw,Bs,qz,V7 u l (Wi hw f A)]
  split at d;rename_i i off hp;split at d;rename_i cs ty f;split at d
  grind
  rename_i r G z;have D:∀xs,r≠.a xs:=λxs e=>G xs e;refine⟨_,d,agp (aAC (E i cs ty f) z) D,λw hw=>?_⟩;rw[aK.Rb D];simp[dk,p,s,hp,aK.c,aK.c1,Bs,qz,V7 u l (Pm hw f (by rw[<-qj];exact z))]
  grind
  rename_i b f;exact raw ⟨b,off,none⟩ (λw hw=>by rw[hp];exact Wh hw f) d
  grind
  rename_i j hp;exact raw j (λ_ _=>by rw[hp];rfl) d
  grind
theorem aaE(g:dn n β L e a){U:cp}(d:U.op= .nilCheck x)(b:fh (.OD (bS x)) e L h V):∃bH,V bH/\bH.ok L/\Yields P U a β L h bH:=by
 have f:=g.eval x;have hk:=g.rU x;simp only[fh]at b;split at b;rename_i i off hp;rw[hp]at hk;exact⟨_,b,hk,λw hw=>by simp[dk,d,f,hp,aK.c,aK.c1]⟩;rename_i j hp;exact⟨_,b,trivial,λw hw=>by simp[dk,d,f,hp,aK.c,aK.c1]⟩
 grind
theorem zE.out{V:Int->Prop}(a:zE z V):V (IntKind.i64.wrap z):=by
 cases a with
 |ok al h1 k=>rw[show IntKind.i64.wrap z=z from IntWalk.i64_in z ⟨al,h1⟩];exact k
 |wrap k=>exact k
theorem aph(j:dn n β L e a){U:cp}(g:U.op= .binOp op t x y g')(b:fh (.arith op (bS x) (bS y)) e L h V):∃bH,V bH/\bH.ok L/\Yields P U a β L h bH:=by
 have f:=j.eval x;have d:=j.eval y;simp only[fh]at b;split at b;rename_i i o hp k;rw[hp]at f;rw[k]at d;split at b;exact⟨_,b.out,trivial,λw hw=>by simp[dk,g,f,d,aK.c,aK.c1,binOp_add,eqGuard_add,L7]⟩;exact⟨_,b.out,trivial,λw hw=>by simp[dk,g,f,d,aK.c,aK.c1,binOp_sub,eqGuard_sub,L7]⟩;exact⟨_,b.out,trivial,λw hw=>by simp[dk,g,f,d,aK.c,aK.c1,binOp_mul,eqGuard_mul,L7]⟩
 grind
 grind
theorem apj(j:dn n β L e a){U:cp}(g:U.op= .binOp op t x y g')(b:fh (.cmp op (bS x) (bS y)) e L h V):∃bH,V bH/\bH.ok L/\Yields P U a β L h bH:=by
 have f:=j.eval x;have d:=j.eval y;simp only[fh]at b;split at b;rename_i i o hp k;rw[hp]at f;rw[k]at d;split at b;exact⟨_,b,trivial,λw hw=>by simp[dk,g,f,d,aK.c,aK.c1,binOp_eql,I7];rfl⟩;exact⟨_,b,trivial,λw hw=>by simp[dk,g,f,d,aK.c,aK.c1,binOp_neq,I7];rfl⟩;exact⟨_,b,trivial,λw hw=>by simp[dk,g,f,d,aK.c,aK.c1,binOp_lss,I7]⟩;exact⟨_,b,trivial,λw hw=>by simp[dk,g,f,d,aK.c,aK.c1,binOp_leq,I7]⟩;exact⟨_,b,trivial,λw hw=>by simp[dk,g,f,d,aK.c,aK.c1,binOp_gtr,I7]⟩;exact⟨_,b,trivial,λw hw=>by simp[dk,g,f,d,aK.c,aK.c1,binOp_geq,I7]⟩
 grind
 grind
theorem apn(i:dn n β L e a){U:cp}(f:U.op= .unOp .not t x)(d:fh (.unop .not (bS x)) e L h V):∃bH,V bH/\bH.ok L/\Yields P U a β L h bH:=by
 have g:=i.eval x;simp only[fh]at d;split at d;rename_i b hp;exact⟨_,d,trivial,λw hw=>by simp[dk,f,g,hp,aK.c,aK.c1,Op.unary]⟩
 grind
theorem aax(s:dn n β L e a){U:cp}{i:Nat}{f:Field}(p:U.op= .fieldAddr t x i)(u:Cf P t i=some f)(d:(jK P f.type&& !hW (jh P f.type) 0)=true)(b:fh (.Ai f.offset (bS x)) e L h V):∃bH,V bH/\bH.ok L/\Yields P U a β L h bH:=by
 have q:=s.eval x;have hk:=s.rU x;simp only[h0]at d;obtain⟨d,m⟩:=d;obtain⟨o,r⟩:=zq d;have v:o.size≠0:=λe=>by rw[zr r,e]at m;cases m
 have y:∃j,P.underlying t=some (.struct j)/\j[i]?=some f:=by
  unfold Cf at u
  grind
 obtain⟨j,hu,k⟩:=y;have go:∀(w:bw)(g:aI),(fieldPlace g f).run P w= .ok (g.add f.offset) w:=λw g=>by
  simp[fieldPlace,run_sizeOf r,v]
 simp only[fh]at b;split at b;rename_i l off hp;rw[hp]at hk;refine⟨_,b,hk,λw hw=>?_⟩;simp[dk,p,q,hp,aK.c,aK.c1,akx,gM hu,k,qz,go,add_lit];rename_i g hp;refine⟨_,b,trivial,λw hw=>?_⟩;simp[dk,p,q,hp,aK.c,aK.c1,akx,gM hu,k,qz,go]
 grind
theorem aay(q:dn n β L e a){U:cp}{i:fM}(g:U.op= .indexAddr t x i)(hu:P.underlying t=some (.slice el))(r:jK P el=true)(b:fh (.rM (jh P el) (bS x) (bS i)) e L h V):∃bH,V bH/\bH.ok L/\Yields P U a β L h bH:=by
 have j:=q.eval x;have p:=q.eval i;have hk:=q.rU x;obtain⟨o,f⟩:=zq r;rw[zr f]at b;simp only[fh]at b;split at b;rename_i A m cap z hp d;obtain⟨s,rfl,al,h1,k⟩:=b;refine⟨_,k,trivial,λw hw=>?_⟩;simp[dk,g,j,p,hp,d,aK.c,aK.c1,Dj,gM hu,DB,run_sizeOf f,al,h1];rename_i l off m cap z hp d;obtain⟨al,h1,k⟩:=b;rw[hp]at hk;refine⟨_,k,hk,λw hw=>?_⟩;simp[dk,g,j,p,hp,d,aK.c,aK.c1,Dj,gM hu,DB,run_sizeOf f,al,h1,add_lit];rename_i A m cap z hp d;obtain⟨s,rfl,al,h1,k⟩:=b;refine⟨_,k,trivial,λw hw=>?_⟩;simp[dk,g,j,p,hp,d,aK.c,aK.c1,Dj,gM hu,DB,run_sizeOf f,al,h1];rename_i l off m cap z hp d;obtain⟨al,h1,k⟩:=b;rw[hp]at hk;refine⟨_,k,hk,λw hw=>?_⟩;simp[dk,g,j,p,hp,d,aK.c,aK.c1,Dj,gM hu,DB,run_sizeOf f,al,h1,add_lit]
 grind
theorem aaz(r:dn n β L e a){U:cp}{m:Nat}{i:fM}(j:U.op= .indexAddr t x i)(hu:P.underlying t=some (.array m el))(s:jK P el=true)(d:fh (.NM m (jh P el) (bS x) (bS i)) e L h V):∃bH,V bH/\bH.ok L/\Yields P U a β L h bH:=by
 have f:=r.eval x;have b:=r.eval i;have hk:=r.rU x;obtain⟨o,g⟩:=zq s;rw[zr g]at d;simp only[fh]at d;split at d;rename_i u z hp p;obtain⟨al,h1,k⟩:=aap d;rw[p]at b;rw[hp]at f;have b:a.eval i= .int .i64 z:=b;refine⟨_,k,trivial,λw hw=>?_⟩;simp[dk,j,f,b,aK.c,aK.c1,Dj,qz,gM hu,DB,run_sizeOf g,al,h1];rename_i l off z hp p;obtain⟨al,h1,k⟩:=aap d;rw[hp]at hk;rw[p]at b;rw[hp]at f;have b:a.eval i= .int .i64 z:=b;refine⟨_,k,hk,λw hw=>?_⟩;simp[dk,j,f,b,aK.c,aK.c1,Dj,qz,gM hu,DB,run_sizeOf g,al,h1,add_lit];rename_i u v hp p;split at d;rename_i z q;obtain⟨al,h1,k⟩:=d;rw[q]at b;refine⟨_,k,trivial,λw hw=>?_⟩;simp[dk,j,f,b,hp,aK.c,aK.c1,Dj,qz,gM hu,DB,run_sizeOf g,al,h1];rename_i z q;obtain⟨al,h1,k⟩:=d;rw[q]at b;refine⟨_,k,trivial,λw hw=>?_⟩;simp[dk,j,f,b,hp,aK.c,aK.c1,Dj,qz,gM hu,DB,run_sizeOf g,al,h1]
 grind
 grind
theorem aaA(g:dn n β L e a){U:cp}(d:U.op= .call {callee:=.builtin .len,args:=#[x],argTypes:=#[t]})(hu:P.underlying t=some (.slice el))(b:fh (.len t (bS x)) e L h V):∃bH,V bH/\bH.ok L/\Yields P U a β L h bH:=by
 have f:=g.eval x;simp only[fh]at b;split at b;rename_i A m cap hp;exact⟨_,b,trivial,λw hw=>by simp[dk,d,tZ,invoke,builtin,f,hp,aK.c,aK.c1,Xm,gM hu,goInt]⟩;rename_i l off m cap hp;exact⟨_,b,trivial,λw hw=>by simp[dk,d,tZ,invoke,builtin,f,hp,aK.c,aK.c1,Xm,gM hu,goInt]⟩
 grind
theorem aaH(g:dn n β L e a){U:cp}(d:U.op= .call {callee:=.builtin .len,args:=#[x],argTypes:=#[t]})(hu:P.underlying t=some .string)(b:fh (.Pu (bS x)) e L h V):∃bH,V bH/\bH.ok L/\Yields P U a β L h bH:=by
 have f:=g.eval x;simp only[fh]at b;split at b;rename_i s hp;exact⟨_,b,trivial,λw hw=>by simp[dk,d,tZ,invoke,builtin,f,hp,aK.c,aK.c1,Xm,gM hu,goInt]⟩
 grind
theorem apc{a b:Int}{c:Prop}(h:MK op a b V c):(V (.v (.bool (Rk op a b)))/\(op= .eql\/op= .neq\/op= .lss\/op= .leq\/op= .gtr\/op= .geq))\/c:=by
 cases op<;>first|exact .inr h|exact .inl ⟨h,bd⟩
theorem Y4{a b:zJ}{x y:Int}:binOp op t (.int a x) (.int b y)=binOp op g' (.int a x) (.int b y):=by cases op<;>rfl
theorem RJ{c d:zJ}{a b:Int}:(eqGuard op t x y (.int c a) (.int d b)).run P w= .ok () w:=by
 unfold eqGuard;simp
theorem aCJ{k:zJ}{a b:Int}(c:op= .eql\/op= .neq\/op= .lss\/op= .leq\/op= .gtr\/op= .geq):(binOp op t (.int k a) (.int k b)).run P w= .ok (.bool (Rk op a b)) w:=by
 rcases c with rfl|rfl|rfl|rfl|rfl|rfl<;>simp[binOp,Op.intCmp,Rk]<;>rfl
theorem vS(g:dn n β L e a){U:cp}(m:U.op= .binOp op t x y g'){i:Nat}(s:¬(op= .shr/\i=0))(b:fh (.uv op i (bS x) (bS y)) e L h V):∃bH,V bH/\bH.ok L/\Yields P U a β L h bH:=by
 have d:=g.eval x;have c:=g.eval y;have bin:∀{j l:zJ}{u v:Int},a.eval x= .int j u->a.eval y= .int l v->FK op j u l v V->∃bH,V bH/\bH.ok L/\Yields P U a β L h bH:=λ{j l u v} h1 ae⟨r,g,k⟩=>
  ⟨_,k,trivial,λw _=>by
   show(dk a.eval U).run P w= .ok (.value r) w;simp only[dk,m,h1,ae,ic,RJ,im,Y4 (t:=t) (g':=0),g,k8]⟩
 have cmp:∀{k:zJ}{u v:Int},a.eval x= .int k u->a.eval y= .int k v->MK op u v V (FK op k u k v V)->∃bH,V bH/\bH.ok L/\Yields P U a β L h bH:=λ{k u v} h1 ae ay=>by
  rcases apc ay with⟨o,p⟩|q;exact⟨_,o,trivial,λw _=>by
   show(dk a.eval U).run P w= .ok (.value _) w;simp only[dk,m,h1,ae,ic,RJ,im,aCJ p,k8];rfl⟩
  grind
 have b:RL op ((bS x).get e) ((bS y).get e) V:=by
  cases op<;>first|exact b|(cases i with
   |zero=>grind
   |succ i=>exact b)
 unfold RL at b;split at b;rename_i u v hp f;rw[hp]at d;rw[f]at c;exact cmp d c b;rename_i u v hp f;rw[hp]at d;rw[f]at c;exact cmp d c b;rename_i j u l v _ _ hp f;rw[hp]at d;rw[f]at c;exact bin d c b
 grind
theorem aav(j:dn n β L e a){U:cp}{i:Nat}(d:U.op= .extract x i)(b:fh (.extract (bS x) i) e L h V):∃bH,V bH/\bH.ok L/\Yields P U a β L h bH:=by
 have f:=j.eval x;simp only[fh]at b;split at b;rename_i aG hp;split at b;rename_i v g;have k:aG[i]?=some v:=by rw[qj]at g;grind
 exact⟨_,b,trivial,λw hw=>by simp[dk,d,f,hp,aK.c,aK.c1,Instr.extract,k]⟩
 grind
 grind
end
end Go.Sx
namespace Go.Sx
open Go.RowKit
set_option maxRecDepth 100000
set_option maxHeartbeats 0
set_option linter.all false
variable {C:(Nat->Nat)->Prop}{next:Act->bw->Prop}{cs:List aK}{aG xs:List ax}{b bytes c cap el off q size ty:Nat}{A B:Option aI}{α:Type}{x:aK}{v z:ax}{bk w:bw}{t:fR}{Q:hT->Act->bw->Prop}{f:l4}
def LE.live:LE->Bool
 |.own .. |.map .. =>true
 |.row _ _ A _ _ _=>A.isSome
 |_=>false
variable {cw:LE}
structure cX(al:J)(a':bw)(β:Nat->Nat)(L:List LE)(h:J)(w:bw):Prop where
 cA:kq β L h w
 hole:∀i l,cz L i=some l->l.live=true->h (β i)=none
 inj:∀i o l cw,cz L i=some l->cz L o=some cw->l.live=true->cw.live=true->β i=β o->i=o
 lt:∀i l,cz L i=some l->l.live=true->β i<w.heap.size
 cQ:∀i l,cz L i=some l->l.live=true->al (β i)≠none\/a'.heap.size<=β i
 os:w.os=a'.os
 tape:w.tape=a'.tape
 output:w.output=a'.output
 size:a'.heap.size<=w.heap.size
 frame:∀o,o<a'.heap.size->al o=none->w.heap[o]?=a'.heap[o]?
 fresh:∀o,h o≠none->al o≠none\/a'.heap.size<=o
theorem ng.lt{h:J}(x:ng h w){o:Nat}(a:h o≠none):o<w.heap.size:=by
 cases e:h o with
 |none=>grind
 |some U=>
  have:=x o U e
  grind
theorem ng.out{h:J}(x:ng h w){o:Nat}(a:w.heap.size<=o):h o=none:=by
 cases e:h o with
 |none=>rfl
 |some U=>have:=x.lt (o:=o) aJ;omega
theorem xK(l:List α) x i:cz (l++[x]) i=if i<l.length then cz l i else if i=l.length then some x else none:=by
 rw[qj,qj,Dl]
 grind
theorem qk(l:List α) x i o(a:i<l.length):cz (gV l i x) o=if o=i then some x else cz l o:=by
 rw[qj,HP,qj,List.getElem?_set]
 grind
theorem ayL(l:List α) x i:(gV l i x).length=l.length:=by rw[HP];simp
section
variable {β cn:Nat->Nat}{L bu:List LE}{h aa:J}{w bk:bw}
theorem IQ(a:x.iQ L)(b:∀i,fo L i->cn i=β i):x.c1 cn=x.c1 β:=by
 cases x<;>simp only[aK.iQ]at a<;>first|rfl|grind [aK.c1]
theorem anV(b:x.ok L)(d:∀i,fo L i->cn i=β i):x.c cn=x.c β:=by
 cases x with
 |a xs=>
  show IC _=IC _;congr 2;exact mG λy e=>IQ (b y e) d
 |v x=>rfl
 |p i off=>exact IQ (x:=.p i off) b d
 |s i off l c=>exact IQ (x:=.s i off l c) b d
 |m i=>exact IQ (x:=.m i) b d
theorem Gk(b:∀x∈cs,x.iQ L)(c:∀i,fo L i->cn i=β i):cs.map (aK.c1 cn)=cs.map (aK.c1 β):=mG λy a=>IQ (b y a) c
theorem O4{i:Nat}(a:fo L i):i<L.length:=by
 obtain⟨l,ak,_⟩:=a;exact ny ak
theorem u7{i:Nat} x(a:fo L i):fo (L++[x]) i:=by
 obtain⟨l,ak,b⟩:=a;exact⟨l,by rw[xK,aP (ny ak)];exact ak,b⟩
theorem dn.agree{n:Nat}{e:cy}{a:Act}(r:dn n β L e a)(b:∀i,fo L i->cn i=β i)(hm:∀i,fo L i->fo bu i):dn n cn bu e a:=⟨r.defers,r.size,λt=>by rw[r.env t,anV (r.ok t) b],λt=>aAA (r.ok t) hm⟩
theorem dn.put{n:Nat}{e:cy}{a:Act}(r:dn n β L e a){d:Nat}(b:d<n){x:aK}(f:x.ok L):dn n β L (ji e d x) (a.put (some d) (x.c β)):=by
 refine⟨r.defers,by simp[Xe,r.size],λt=>?_,λt=>?_⟩;have g:=r.size;by_cases i:t=d;simp_all[Xe,ji,g,b];have he:=r.env t;rw[FC]at he;have:hW t d=false:=by
  cases j:hW t d with
  |true=>simp_all
  |false=>rfl
 simp only[Xe,ji,this,uA,FC,Array.getElem?_setIfInBounds]
 grind
 unfold ji;cases h:hW t d with
 |true=>exact f
 |false=>exact r.ok t
theorem cX.push{al:J}{a':bw}(m:cX al a' β L h w)(y:dN L){cells:List aK}(ay:∀x∈cells,x.iQ L)(ty:Nat):
 ∃cn,(∀i,i<L.length->cn i=β i)/\cn L.length=w.heap.size/\
  cX al a' cn (L++[.own cells ty]) h {w with heap:=w.heap.push (.cells (cells.map (aK.c1 β)).toArray ty)}:=by
 refine⟨λi=>if i=L.length then w.heap.size else β i,λi c=>aJ,bd,?_⟩
 have r:∀i,fo L i->(if i=L.length then w.heap.size else β i)=β i:=λi c=>by
  have:=O4 c
  grind
 have e:∀i l,cz (L++[LE.own cells ty]) i=some l->(i<L.length/\cz L i=some l)\/(i=L.length/\l= .own cells ty):=by
  intro i l ak;rw[xK]at ak
  grind
 have p:∀o:Nat,o<w.heap.size->(w.heap.push (.cells (cells.map (aK.c1 β)).toArray ty))[o]?=w.heap[o]? :=λo q=>by
  grind
 refine⟨⟨λo U v=>?_,λi l ak=>?_⟩,λi l ak a=>?_,λi o l cw ak j a s he=>?_,λi l ak a=>?_,λi l ak a=>?_,m.os,m.tape,m.output,?_,λo q u=>?_,m.fresh⟩
 show(w.heap.push _)[o]?=some U
 rw[p o (m.cA.hw.lt aJ)]
 exact m.cA.hw o U v
 rcases e i l ak with⟨c,ak⟩|⟨rfl,rfl⟩
 have d:=m.cA.cA i l ak
 have z:(if i=L.length then w.heap.size else β i)=β i:=aJ
 cases l with
 |own cs t=>
  simp only[LE.fu]at d⊢;rw[z,p _ (m.lt i _ ak rfl),Gk (y i cs t ak) r];exact d
 |b4 b=>simp only[LE.fu]at d⊢;omega
 |row bK size A n cap xs=>
  simp only[LE.fu]at d⊢;obtain⟨⟨h1,ae⟩,C⟩:=d;refine⟨⟨h1,?_⟩,λg B=>aJ⟩
  grind
 |map f k=>
  simp only[LE.fu]at d⊢
  grind
 |gone=>trivial
 simp only[LE.fu,lY]
 rw[Gk ay r,Array.getElem?_push,aP rfl]
 rcases e i l ak with⟨c,ak⟩|⟨rfl,rfl⟩
 simp only[show(i=L.length)=False from aJ,mm];exact m.hole i l ak a
 simp only[lY];exact m.cA.hw.out (dz _)
 rcases e i l ak with⟨c,ak⟩|⟨rfl,rfl⟩<;>rcases e o cw j with⟨q,j⟩|⟨rfl,rfl⟩
 simp only[show(i=L.length)=False from aJ,show(o=L.length)=False from aJ,mm]at he
 exact m.inj i o l cw ak j a s he
 simp only[show(i=L.length)=False from aJ,mm,lY]at he
 have:=m.lt i l ak a;omega
 simp only[show(o=L.length)=False from aJ,mm,lY]at he
 have:=m.lt o cw j s;omega
 rfl
 show _<(w.heap.push _).size
 rw[P1]
 rcases e i l ak with⟨c,ak⟩|⟨rfl,rfl⟩
 simp only[show(i=L.length)=False from aJ,mm];have:=m.lt i l ak a;omega
 simp
 rcases e i l ak with⟨c,ak⟩|⟨rfl,rfl⟩
 simp only[show(i=L.length)=False from aJ,mm];exact m.cQ i l ak a
 simp only[lY];exact .inr m.size
 show _<=(w.heap.push _).size
 rw[P1];have:=m.size;omega
 show(w.heap.push _)[o]?=_
 have:=m.size
 rw[p o I]
 exact m.frame o q u
theorem dN.push(c:dN L){cells:List aK}(ay:∀x∈cells,x.iQ L) ty:dN (L++[.own cells ty]):=by
 intro i cs t a x b;rw[xK]at a;split at a;exact z' (c i cs t a x b) λi=>u7 _;split at a;injection a with a;injection a with h1 ae;subst h1;exact z' (ay x b) λi=>u7 _
 grind
theorem VR cells ty:fo (L++[.own cells ty]) L.length:=⟨.own cells ty,by rw[xK];simp,rfl⟩
def wr(w:bw)(b ty:Nat)(cs:List ax):bw:={w with heap:=w.heap.setIfInBounds b (.cells cs.toArray ty (0,0))}
theorem ajG w b ty cs o:(wr w b ty cs).heap[o]?=if b=o then(if b<w.heap.size then some (.cells cs.toArray ty (0,0))else none)else w.heap[o]? :=by
 grind [wr]
theorem od w{b ty o:Nat} cs(a:o≠b):(wr w b ty cs).heap[o]?=w.heap[o]? :=by rw[ajG,aD (Ne.symm a)]
theorem Lx w{b ty:Nat} cs(a:b<w.heap.size):(wr w b ty cs).heap[b]?=some (.cells cs.toArray ty (0,0)):=by rw[ajG,aP rfl,aP a]
theorem PO w b ty cs:(wr w b ty cs).heap.size=w.heap.size:=by simp[wr]
theorem agJ{α:Type}:∀off(l:List α) y aO r,over l off (y::aO)=some r->off<l.length/\over (l.set off y) (off+1) aO=some r
 |0,[],y,aO,r,h=>by grind [over]
 |0,x::l,y,aO,r,h=>by
  grind [over]
 |off+1,[],y,aO,r,h=>by grind [over]
 |off+1,x::l,y,aO,r,h=>by
  simp only[over]at h;split at h;rename_i d c;injection h with h;subst h;obtain⟨a,b⟩:=agJ off l y aO d c;simp_all[over,b]
  grind
theorem Vm{α:Type}:∀off(l r:List α),over l off []=some r->r=l
 |0,l,r,h=>by grind [over]
 |off+1,[],r,h=>by grind [over]
 |off+1,x::l,r,h=>by
  simp only[over]at h;split at h;rename_i b a;injection h with h;subst h;rw[Vm off l b a]
  grind
theorem aDc{w:bw}{cs:List ax}(a:w.heap[b]?=some (.cells cs.toArray ty (0,0))) v:w.setCell ⟨b,off,none⟩ v=wr w b ty (cs.set off v):=by
 have d:b<w.heap.size:=(zw.1 a).1;have c:w.heap[b]= .cells cs.toArray ty (0,0):=by
  grind
 simp only[World.setCell,wr];congr 1
 grind
theorem V8{P:eN}{b ty:Nat}:∀aG w cs a off i,w.heap[b]?=some (.cells cs.toArray ty (0,0))->(∀u∈aG,u.oneCell'=true)->over cs (off+i) aG=some a->(ait ⟨b,off,none⟩ aG i).run P w= .ok () (if aG=[]then w else wr w b ty a)
 |[],w,cs,a,off,i,_,_,_=>by rfl
 |v::aG,w,cs,a,off,i,c,h1,f=>by
  obtain⟨h,d⟩:=agJ _ _ _ _ _ f;have j:b<w.heap.size:=(zw.1 c).1;have ay:w.cell? ((nI b off none).add i)=some cs[off+i]:=by
   rw[add_lit];simp[Mf,c,h]
  have e:w.frozen? ((nI b off none).add i)=false:=by
   rw[add_lit];simp[World.frozen?,c]
  simp only[ait,ic,run_store P w _ v _ (h1 v bd),ay,e,ug,mm,im];rw[add_lit,aDc c,V8 aG _ (cs.set (off+i) v) a off (i+1) (Lx w _ j) (λu hu=>h1 u (by simp[hu])) I];rw[aD (show¬(v::aG=[])from bd)];split;rename_i g;subst g;rw[Vm _ _ _ d];simp[wr]
theorem Pg{P:eN}(h:jK P t=true){w:bw}{cs c:List ax}(ak:v.cells.toList.length=jh P t)(e:w.heap[b]?=some (.cells cs.toArray ty (0,0)))(h1:∀u∈v.cells.toList,u.oneCell'=true)(a:over cs off v.cells.toList=some c):(aiu t ⟨b,off,none⟩ v).run P w= .ok () (wr w b ty c):=by
 obtain⟨i,d⟩:=zq h;have g:v.cells.size=i.size:=by rw[<-zr d,<-ak];simp
 have j:b<w.heap.size:=(zw.1 e).1;simp only[aiu,ic,run_sizeOf d,im,g,ne_eq,not_true_eq_false,mm];rw[V8 v.cells.toList w cs c off 0 e h1 a];split;rename_i f;rw[f]at a;rw[Vm _ _ _ a];congr 1;unfold wr;have:w.heap.setIfInBounds b (.cells cs.toArray ty (0,0))=w.heap:=by
  grind
 rw[this];rfl
theorem Mp(b:cellsOf x=some cs):(x.c β).cells.toList=cs.map (aK.c1 β):=by
 cases x with
 |a xs=>injection b with b;grind [aK.c,Value.cells]
 |v y=>
  cases y with
  |agg d=>
   injection b with b;subst b;show d.toList=_;rw[DE]
  |tuple d=>cases b
  |_=>injection b with b;subst b;rfl
 |_=>injection b with b;subst b;rfl
theorem agu(b:Hw cs=true):∀u∈cs.map (aK.c1 β),u.oneCell'=true:=by
 induction cs with
 |nil=>simp
 |cons x l c=>
  simp only[Hw,h0]at b;intro u hu;simp only[ec,List.mem_cons]at hu;rcases hu with rfl|hu;cases x with
  |v y=>cases y<;>first|rfl|grind [one]
  |a xs=>grind [one]
  |_=>rfl
  grind
theorem KO{α c:Type}(f:α->c):∀off l aO r,over l off aO=some r->over (l.map f) off (aO.map f)=some (r.map f)
 |0,l,[],r,h=>by grind [over]
 |0,[],y::aO,r,h=>by grind [over]
 |0,x::l,y::aO,r,h=>by
  simp only[over]at h;split at h;rename_i b a;injection h with h;subst h;simp[over,KO f 0 l aO b a]
  grind
 |off+1,[],aO,r,h=>by grind [over]
 |off+1,x::l,aO,r,h=>by
  simp only[over]at h;split at h;rename_i b a;injection h with h;subst h;simp[over,KO f off l aO b a]
  grind
theorem Vk{l aO r:List α}(a:over l off aO=some r){x:α}(b:x∈r):x∈l\/x∈aO:=by
 obtain⟨_,_,d⟩:=KN _ _ _ _ a;obtain⟨o,c⟩:=List.mem_iff_getElem?.1 b
 grind
theorem cX.write{al:J}{a':bw}(m:cX al a' β L h w){i:Nat}{l:LE}(j:cz L i=some l)(q:l.live=true)(X:cw.live=true)(V:l.isRow=cw.isRow){cs:List ax}(T:cw.fu β i (wr w (β i) ty cs)):cX al a' β (gV L i cw) h (wr w (β i) ty cs)/\(∀o,fo L o->fo (gV L i cw) o):=by
 have x:=ny j;have Z:=m.lt i l j q;have r:∀o k,cz (gV L i cw) o=some k->(o=i/\k=cw)\/(o≠i/\cz L o=some k):=by
  intro o k hk;rw[qk _ _ _ _ x]at hk
  grind
 have v:∀o k,o≠i->cz L o=some k->k.live=true->β o≠β i:=λo k a hk d e=>a (m.inj o i k l hk j d q e);refine⟨⟨⟨λo U t=>?_,λo k hk=>?_⟩,λo k hk d=>?_,λo P k C hk I d D he=>?_,λo k hk d=>?_,λo k hk d=>?_,m.os,m.tape,m.output,by rw[PO];exact m.size,λo a F=>?_,m.fresh⟩,λo a=>?_⟩;have u:o≠β i:=λe=>by rw[e,m.hole i l j q]at t;cases t
 rw[od w cs u];exact m.cA.hw o U t;rcases r o k hk with⟨rfl,rfl⟩|⟨a,hk⟩;omega;have p:=m.cA.cA o k hk;cases k with
 |own W R=>simp only[LE.fu]at p⊢;rw[od w cs (v o _ a hk rfl)];exact p
 |b4 b=>exact p
 |row bK size A n cap xs=>
  simp only[LE.fu]at p⊢;obtain⟨⟨h1,ae⟩,z⟩:=p;refine⟨⟨h1,?_⟩,z⟩;rcases ae with ae|⟨g,c,K,s,H,N,O⟩
  grind
  injection s with s Y Q;have S:=z _ s;subst s;exact .inr ⟨g,c,K,by rw[Q],H,by rw[od w cs (by have:=v o _ a hk rfl;grind)];exact N,O⟩
 |map f C=>simp only[LE.fu]at p⊢;rw[od w cs (v o _ a hk rfl)];exact p
 |gone=>trivial
 rcases r o k hk with⟨rfl,rfl⟩|⟨a,hk⟩;exact m.hole o l j q;exact m.hole o k hk d;rcases r o k hk with⟨G,y⟩|⟨G,y⟩<;>rcases r P C I with⟨M,B⟩|⟨M,B⟩;omega
 grind
 grind
 exact m.inj _ _ _ _ y B d D he;rw[PO];rcases r o k hk with⟨rfl,rfl⟩|⟨a,hk⟩;omega;exact m.lt o k hk d;rcases r o k hk with⟨rfl,rfl⟩|⟨a,hk⟩;exact m.cQ _ l j q;exact m.cQ o k hk d;by_cases e:o=β i;subst e;rcases m.cQ i l j q with e|e
 grind
 omega;rw[od w cs e];exact m.frame o a F;obtain⟨k,hk,E⟩:=a;by_cases e:o=i;subst e;rw[j]at hk;injection hk with hk;subst hk;exact⟨cw,by rw[qk _ _ _ _ x,aP rfl],aJ⟩;exact⟨k,by rw[qk _ _ _ _ x,aD e];exact hk,E⟩
theorem dN.ah0(c:dN L){i:Nat}(d:i<L.length)(hm:∀o,fo L o->fo (gV L i (.own cs ty)) o)(ay:∀x∈cs,x.iQ L):dN (gV L i (.own cs ty)):=by
 intro o e t a x b;rw[qk _ _ _ _ d]at a;split at a;injection a with a;injection a with h1 ae;subst h1;exact z' (ay x b) hm;exact z' (c o e t a x b) hm
end
abbrev fw:=cy->List LE->J->Prop
variable {K:fw}
def g8(n:Nat)(d:Option Nat)(x:aK)(e:cy)(L:List LE)(h:J)(K:fw):Prop:=
 match d with
 |some d=>bif Qu d n then K (ji e d x) L h else False
 |none=>K e L h
def Jh:Nat->(Nat->Prop)->Prop
 |0,K=>K 0
 |n+1,K=>Jh n λm=>K (m+1)
theorem DV:∀n K,Jh n K=K n
 |0,_=>rfl
 |n+1,K=>DV n λm=>K (m+1)
def DU:List LE->(List LE->Prop)->Prop
 |[],K=>K []
 |l::r,K=>DU r λr=>K (l::r)
theorem xk:∀L K,DU L K=K L
 |[],_=>rfl
 |l::r,K=>xk r λr=>K (l::r)
inductive LL(h:J)(K:Nat->Prop):Prop
 |mk (k:∀b,h b=none->K b)
def ZP:Nat->List LE->Nat->Option Nat
 |0,_,_=>none
 |a+1,L,i=>match cz L i with
  |some (.own cs _)=>(match q7 L cs with
   |some _=>some i
   |none=>(match KA L cs with
    |some o=>ZP a L o
    |none=>none))
  |_=>none
def mx:Nat->List aK->(List LE->J->Prop)->List LE->J->Prop
 |0,_,_,_,_=>False
 |a+1,xs,K,L,h=>match Kz L xs with
  |none=>K L h
  |some i=>match ZP 40 L i with
   |none=>False
   |some i=>match cz L i with
    |some (.own cs ty)=>(match q7 L cs with
     |some aG=>LL h λb=>DU (gV L i (.b4 b)) λL=>mx a xs K L (h.put b (.cells aG.toArray ty (0,0)))
     |none=>False)
    |_=>False
def bJ(h:J)(bK size:Nat)(A:Option aI)(n cap:Nat)(xs:List ax):Prop:=xs.length=n*size/\((A=none/\n=0/\cap=0)\/∃g a,A=some ⟨g,0,none⟩/\h g=some (.cells a bK (0,0))/\n<=cap/\cap<=eD/\a.size=cap*size/\a.toList.take (n*size)=xs)
def eP(h:J):Option aI->J
 |some g=>h.del g.block
 |none=>h
inductive hc(K:List LE->J->Prop):List LE->J->Prop
 |ah {L:List LE} {h:J} (k:K L h):hc K L h
 |b4 {L:List LE} {h:J} (i bK size:Nat) (A:Option aI) (n cap:Nat) (xs:List ax) (ai:cz L i=some (.row bK size A n cap xs))
  (k:∀aa,h.le aa->bJ aa bK size A n cap xs->(∀g,A=some g->h g.block=none)->hc K (gV L i .gone) aa):hc K L h
 |abs {L:List LE} {h:J} (bK size:Nat) (A:Option aI) (n cap:Nat) (xs:List ax) (aq:bJ h bK size A n cap xs)
  (k:hc K (L++[.row bK size A n cap xs]) (eP h A)):hc K L h
inductive akf(P:eN)(f:l4)(args:Array ax)(L:List LE)(h:J)(K:ax->List LE->J->Prop):Prop
 |mk (Q:ax->J->Prop) (ay:Fn P f args h Q) (k:∀v aa,Q v aa->K v L aa)
 |mq (Q:ax->J->Prop) (ay:Fn P f args h Q) (k:∀v aa,Q v aa->hc (K v) L aa)
inductive H6(P:eN)(f:l4)(args:Array ax)(K:ax->List LE->J->Prop):List LE->J->Prop
 |mk {L:List LE} {h:J} (Q:ax->J->Prop) (ay:Fn P f args h Q) (cJ:∀v aa,Q v aa->h.le aa) (k:∀v aa,Q v aa->K v L aa):H6 P f args K L h
 |b4 {L:List LE} {h:J} (i bK size:Nat) (A:Option aI) (n cap:Nat) (xs:List ax) (ai:cz L i=some (.row bK size A n cap xs))
  (k:∀aa,h.le aa->bJ aa bK size A n cap xs->(∀g,A=some g->h g.block=none)->H6 P f args K (gV L i .gone) aa):H6 P f args K L h
inductive akg(P:eN)(f:l4)(args:Array ax)(h:J)(K:ax->J->Prop):Prop
 |mk (Q:ax->J->Prop) (ay:Fn P f args h Q) (k:∀v aa,Q v aa->K v aa)
inductive H8(L:List LE)(h:J)(a:aI)(aG:List ax)(K:List LE->J->Prop):Prop
 |hp (b off ty:Nat) (cs ht:List ax) (aV:a=⟨b,off,none⟩) (aj:h b=some (.cells cs.toArray ty (0,0))) (aS:over cs off aG=some ht) (k:K L (h.put b (.cells ht.toArray ty (0,0))))
 |row (i bK size:Nat) (g:aI) (n cap:Nat) (xs nf:List ax) (o:Nat) (ai:cz L i=some (.row bK size (some g) n cap xs)) (aV:a=g.add o) (aS:over xs o aG=some nf)
  (k:K (gV L i (.row bK size (some g) n cap nf)) h)
inductive Src(L:List LE)(h:J)(size:Nat)(B:Option aI)(m:Nat):List ax->Prop
 |nil (hm:m=0):Src L h size B m []
 |hp (b:aI) (aG:List ax) (b9:B=some b) (ak:aG.length=m*size) (ay:∀o v,aG[o]?=some v->h.cell? (b.add o)=some v):Src L h size B m aG
inductive x5(bK size bytes:Nat)(A:Option aI)(n cap m:Nat)(S:List ax->Prop)(L:List LE)(K:aK->List LE->Prop):Prop
 |c3 (i:Nat) (xs aG:List ax) (ai:cz L i=some (.row bK size A n cap xs)) (ao:S aG) (h1:∀u∈aG,u.oneCell'=true) (hm:n+m<=eD) (aj:(n+m)*bytes<=140737488355328)
  (k:∀bC dt,(bC=none↔A=none/\m=0)/\n+m<=dt->K (.v (.slice bC (n+m) dt)) (gV L i (.row bK size bC (n+m) dt (xs++aG))))
 |fresh (aG:List ax) (aT:A=none) (aA:n=0) (su:cap=0) (ao:S aG) (h1:∀u∈aG,u.oneCell'=true) (hm:m<=eD) (aj:m*bytes<=140737488355328)
  (k:∀bC dt,(bC=none↔m=0)/\m<=dt->K (.v (.slice bC m dt)) (L++[.row bK size bC m dt aG]))
 |off (i b nA N jB:Nat) (xs aG:List ax) (aT:A=some ⟨b,nA,none⟩) (ai:cz L i=some (.row bK size (some ⟨b,0,none⟩) N jB xs)) (dE:N*size=nA+n*size) (hC:n+m<=cap->jB*size=nA+cap*size) (ao:S aG) (h1:∀u∈aG,u.oneCell'=true) (al:0<m) (hm:n+m<=eD) (aj:(n+m)*bytes<=140737488355328)
  (b2:n+m<=cap->K (.v (.slice A (n+m) cap)) (gV L i (.row bK size (some ⟨b,0,none⟩) (N+m) jB (xs++aG))))
  (bN:cap<n+m->∀cf dt,n+m<=dt->K (.v (.slice (some cf) (n+m) dt)) (L++[.row bK size (some cf) (n+m) dt (xs.drop nA++aG)]))
inductive De(bK size bytes:Nat)(A:Option aI)(n cap m:Nat)(S:List ax->Prop)(L:List LE)(h:J)(K:aK->List LE->J->Prop):Prop
 |c3 (i:Nat) (xs aG:List ax) (ai:cz L i=some (.row bK size A n cap xs)) (ao:S aG) (h1:∀u∈aG,u.oneCell'=true) (hm:n+m<=eD) (aj:(n+m)*bytes<=140737488355328)
  (k:∀bC dt,(bC=none↔A=none/\m=0)/\n+m<=dt->K (.v (.slice bC (n+m) dt)) (gV L i (.row bK size bC (n+m) dt (xs++aG))) h)
 |fresh (aG:List ax) (aT:A=none) (aA:n=0) (su:cap=0) (ao:S aG) (h1:∀u∈aG,u.oneCell'=true) (hm:m<=eD) (aj:m*bytes<=140737488355328)
  (k:∀bC dt,(bC=none↔m=0)/\m<=dt->K (.v (.slice bC m dt)) (L++[.row bK size bC m dt aG]) h)
 |mem (b off:Nat) (bm ht aG pb:List ax) (aT:A=some ⟨b,off,none⟩) (aj:h b=some (.cells bm.toArray bK (0,0))) (ao:S aG) (h1:∀u∈aG,u.oneCell'=true) (al:0<m) (rH:pb.length=n*size) (gB:∀o u,pb[o]?=some u->bm[off+o]?=some u)
  (aS:n+m<=cap->over bm (off+n*size) aG=some ht) (hm:n+m<=eD) (o1:(n+m)*bytes<=140737488355328)
  (b2:n+m<=cap->K (.v (.slice A (n+m) cap)) L (h.put b (.cells ht.toArray bK (0,0))))
  (bN:cap<n+m->∀cf dt,n+m<=dt->K (.v (.slice (some cf) (n+m) dt)) (L++[.row bK size (some cf) (n+m) dt (pb++aG)]) h)
 |off (i b nA N jB:Nat) (xs aG:List ax) (aT:A=some ⟨b,nA,none⟩) (ai:cz L i=some (.row bK size (some ⟨b,0,none⟩) N jB xs)) (dE:N*size=nA+n*size) (hC:n+m<=cap->jB*size=nA+cap*size) (ao:S aG) (h1:∀u∈aG,u.oneCell'=true) (al:0<m) (hm:n+m<=eD) (aj:(n+m)*bytes<=140737488355328)
  (b2:n+m<=cap->K (.v (.slice A (n+m) cap)) (gV L i (.row bK size (some ⟨b,0,none⟩) (N+m) jB (xs++aG))) h)
  (bN:cap<n+m->∀cf dt,n+m<=dt->K (.v (.slice (some cf) (n+m) dt)) (L++[.row bK size (some cf) (n+m) dt (xs.drop nA++aG)]) h)
 |rd (b off:Nat) (aG pb:List ax) (aT:A=some ⟨b,off,none⟩) (ao:S aG) (h1:∀u∈aG,u.oneCell'=true) (al:0<m) (rH:pb.length=n*size) (gB:∀o u,pb[o]?=some u->h.cell? ((nI b off none).add o)=some u)
  (ay:cap<n+m) (hm:n+m<=eD) (o1:(n+m)*bytes<=140737488355328)
  (bN:∀cf dt,n+m<=dt->K (.v (.slice (some cf) (n+m) dt)) (L++[.row bK size (some cf) (n+m) dt (pb++aG)]) h)
def vm(P:eN)(U:Op)(aG:List ax)(w:bw)(v:ax)(bk:bw):Prop:=∀(a:fM->ax)(q:cp),q.op=U->U.operands.toList.map a=aG->(dk a q).run P w= .ok (.value v) bk
inductive Xz(P:eN)(U:Op)(aG:List ax)(h:J)(K:ax->J->Prop):Prop
 |mk (v:ax) (af:∀w,ng h w->vm P U aG w v w) (k:K v h)
 |put (v:ax) (b:Nat) (x y:Obj) (aj:h b=some x) (af:∀w,ng h w->vm P U aG w v {w with heap:=w.heap.setIfInBounds b y}) (k:K v (h.put b y))
 |aic (b:Nat) (x y:Obj) (aj:h b=some x) (af:∀w,ng h w->∀(kK:fM->ax)(q:cp),q.op=U->U.operands.toList.map kK=aG->(dk kK q).run P w= .ok .skip {w with heap:=w.heap.setIfInBounds b y}) (k:K fp (h.put b y))
inductive aki(P:eN)(t:fR)(v:ax)(name:String)(K:l4->ax->Prop):Prop
 |mk (f:l4) (r:ax) (hm:∀w,(method (P.types.size+Made.depth) t v name).run P w= .ok (f,r) w) (k:K f r)
inductive oP(size bytes:Nat)(zero:List ax)(wE oO:Int)(K:Nat->Nat->aI->List ax->Prop):Prop
 |mk (m:Nat) (ak:wE=m) (ay:oO=m) (aj:m*bytes<=281474976710656) (hm:m<=9223372036854775807) (k:∀g,K m m g (sI zero.toArray (m*size)).toList)
 |one (m:Nat) (z:ax) (a1:zero=[z]) (ao:size=1) (ak:wE=m) (ay:oO=m) (aj:m*bytes<=281474976710656) (hm:m<=9223372036854775807) (k:∀g,K m m g (bh m z))
 |room (c:Nat) (ak:wE=0) (ay:oO=c) (aj:c*bytes<=281474976710656) (hm:c<=9223372036854775807) (k:∀g,K 0 c g [])
inductive akm(h:J)(b b0:Nat)(dJ:List Int)(v:ax)(K:J->Prop):Prop
 |mk (l:List il) (cq:Nat) (hm:yb h b b0 l cq) (k:∀i9,K (h.put b (kb b0 (upsert l dJ v cq) i9)))
 |azq (l:List il) (cq:Nat) (hm:yb h b b0 l cq) (k:K (h.put b (kb b0 (upsert l dJ v cq) (if(jC l dJ).isSome then cq else cq+1))))
inductive akl(h:J)(b:Nat)(K:Nat->J->Prop):Prop
 |mk (es:Array BB) (cq:Nat) (aj:h b=some (.map es cq)) (k:∀r,h r=none->K r (h.put r (.mapIter (some b) cq #[] cq)))
inductive akk(h:J)(r:Nat)(K:ax->J->Prop):Prop
 |mk (aX xP gl cq:Nat) (seen:Array Nat) (es:Array BB) (aq:h r=some (.mapIter (some aX) xP seen gl)) (aj:h aX=some (.map es cq)) (gB:∀x∈es.toList,x.born<xP) (ac':xP<=gl)
  (done:(leftOf es seen).size=0->K (.tuple #[.bool false]) h)
  (rS:∀e∈(leftOf es seen).toList,K (.tuple #[.bool true,e.key,e.val]) (h.put r (.mapIter (some aX) xP (seen.push e.born) cq)))
inductive ake(h:J)(r:Nat)(K:ax->Prop):Prop
 |mk (aX xP cq:Nat) (seen:Array Nat) (es:Array BB) (e:BB) (aq:h r=some (.mapIter (some aX) xP (seen.push e.born) cq)) (aj:h aX=some (.map es cq)) (he:e∈es.toList) (aA:(es.toList.map (·.born)).Nodup)
  (k:K (.tuple #[e.key,e.val]))
def Fc:Nat->List ax->List aK
 |0,_=>[]
 |n+1,z=>(z.map .v)++Fc n z
def Bd(P:eN)(n:Nat)(f:l4)(fA:List aK)(d:Option Nat)(e:cy)(L:List LE)(h:J)(K:fw):Prop:=
 mx 40 fA (λL h=>match ph L fA with
  |some aG=>hc (λL h=>akf P f aG.toArray L h λv L aa=>g8 n d (.v v) e L aa K) L h
  |none=>False) L h
def HX(P:eN)(n:Nat)(f:l4)(fA:List aK)(d:Option Nat)(e:cy)(L:List LE)(h:J)(K:fw):Prop:=
 match ph L fA with
 |some aG=>H6 P f aG.toArray (λv L aa=>g8 n d (.v v) e L aa K) L h
 |none=>False
def PM(P:eN)(n:Nat)(f:l4)(fA:List aK)(d:Option Nat)(e:cy)(L:List LE)(h:J)(K:fw):Prop:=
 match ph L fA with
 |some aG=>akg P f aG.toArray h λv aa=>g8 n d (.v v) e L aa K
 |none=>False
def HW(n:Nat)(bK size bytes:Nat)(A:Option aI)(m cap:Nat)(y:aK)(d:Option Nat)(e:cy)(L:List LE)(h:J)(K:fw):Prop:=
 match y with
 |.v (.slice B k _)=>x5 bK size bytes A m cap k (Src L h size B k) L λx L=>g8 n d x e L h K
 |.s o off k _=>(match cz L o with
  |some (.own cs _)=>(match sub cs off (k*size)with
   |some r=>(match q7 L r with
    |some aG=>x5 bK size bytes A m cap k (λl=>l=aG) L λx L=>g8 n d x e L h K
    |none=>False)
   |none=>False)
  |_=>False)
 |_=>False
def HV(n:Nat)(bK size bytes:Nat)(A:Option aI)(m cap:Nat)(y:aK)(d:Option Nat)(e:cy)(L:List LE)(h:J)(K:fw):Prop:=
 match y with
 |.v (.slice B k _)=>hc (λL h=>De bK size bytes A m cap k (Src L h size B k) L h λx L h=>g8 n d x e L h K) L h
 |.s o off k _=>(match cz L o with
  |some (.own cs _)=>(match sub cs off (k*size)with
   |some r=>mx 40 r (λL h=>match q7 L r with
    |some aG=>hc (λL h=>De bK size bytes A m cap k (λl=>l=aG) L h λx L h=>g8 n d x e L h K) L h
    |none=>False) L h
   |none=>False)
  |_=>False)
 |_=>False
def fZ(P:eN)(n:Nat)(k:lL)(d:Option Nat)(e:cy)(L:List LE)(h:J)(K:fw):Prop:=
 match k with
 |.alloc ty zero=>Jh L.length λi=>DU (L++[.own (zero.map .v) ty]) λL=>g8 n d (.p i 0) e L h K
 |.box ty x=>(match cellsOf (x.get e)with
  |some cs=>Jh L.length λi=>DU (L++[.own cs ty]) λL=>g8 n d (.p i 0) e L h K
  |none=>False)
 |.Gd ty len size zero parts=>bif p0 (len*size) 16777216 then(match Aj (Fc len zero) (parts.map λp=>(p.1*size,size,p.2.get e))with
  |some cs=>Jh L.length λi=>DU (L++[.own cs ty]) λL=>g8 n d (.s i 0 len len) e L h K
  |none=>False)else False
 |.store m x y=>(match cellsOf (y.get e)with
  |some cs=>bif Hw cs&&hW cs.length m then
   (match x.get e with
   |.p i off=>(match cz L i with
    |some (.own xs ty)=>(match over xs off cs with
     |some u=>DU (gV L i (.own u ty)) λL=>g8 n d (.v fp) e L h K
     |none=>False)
    |some (.b4 b)=>mx 40 cs (λL h=>match q7 L cs with
     |some aG=>H8 L h ⟨b,off,none⟩ aG λL h=>g8 n d (.v fp) e L h K
     |none=>False) L h
    |_=>False)
   |.v (.pointer (some a))=>mx 40 cs (λL h=>match q7 L cs with
    |some aG=>H8 L h a aG λL h=>g8 n d (.v fp) e L h K
    |none=>False) L h
   |_=>False)else False
  |none=>False)
 |.set x=>force (x.get e) λx=>g8 n d x e L h K
 |.Gf f args=>HX P n f (args.map (eb.get e)) d e L h K
 |.Zk f args=>PM P n f (args.map (eb.get e)) d e L h K
 |.Rd x args=>(match x.get e with
  |.v (.func (.func f) first j)=>HX P n f (first.toList.map .v++(args.map (eb.get e)++j.toList.map .v)) d e L h K
  |_=>False)
 |.IG _ bK size bytes _ x y=>(match x.get e with
  |.v (.slice A m cap)=>HW n bK size bytes A m cap (y.get e) d e L h K
  |.s i 0 m cap=>(match cz L i with
   |some (.own cs ty)=>bif hW cs.length (cap*size)&&p0 m cap&&hW ty bK&&p0 cap 9223372036854775807 then
    (match q7 L cs with
    |some aG=>LL h λb=>HW n bK size bytes (some ⟨b,0,none⟩) m cap (y.get e) d e (gV L i .gone++[.row bK size (some ⟨b,0,none⟩) m cap (aG.take (m*size))]) h K
    |none=>False)else False
   |_=>False)
  |_=>False)
 |.call f args=>Bd P n f (args.map (eb.get e)) d e L h K
 |.DF x args=>(match x.get e with
  |.v (.func (.func f) first j)=>Bd P n f (first.toList.map .v++(args.map (eb.get e)++j.toList.map .v)) d e L h K
  |_=>False)
 |.append _ bK size bytes _ x y=>(match x.get e with
  |.v (.slice A m cap)=>HV n bK size bytes A m cap (y.get e) d e L h K
  |.s i 0 m cap=>(match cz L i with
   |some (.own cs ty)=>bif hW cs.length (cap*size)&&p0 m cap&&hW ty bK&&p0 cap 9223372036854775807 then
    (match q7 L cs with
    |some aG=>LL h λb=>HV n bK size bytes (some ⟨b,0,none⟩) m cap (y.get e) d e (gV L i .gone++[.row bK size (some ⟨b,0,none⟩) m cap (aG.take (m*size))]) h K
    |none=>False)else False
   |_=>False)
  |_=>False)
 |.EY _ bK size bytes zero l c=>(match l.get e,c.get e with
  |.v (.int .i64 w),.v (.int .i64 oO)=>oP size bytes zero w oO λm c g xs=>g8 n d (.v (.slice (some g) m c)) e (L++[.row bK size (some g) m c xs]) h K
  |_,_=>False)
 |.Oq f j=>mx 40 (j.map (eb.get e)) (λL h=>match ph L (j.map (eb.get e))with
  |some aG=>g8 n d (.v (.func (.func f) #[] aG.toArray)) e L h K
  |none=>False) L h
 |.Ot=>LL h λb=>g8 n d (.v (.map (some b))) e L (h.put b (.map #[] 0)) K
 |.Oj o x k v=>(match x.get e,NZ o (k.get e),v.get e with
  |.v (.map (some b)),some q,.v y=>akm h b o q y λh=>g8 n d (.v fp) e L h K
  |_,_,_=>False)
 |.range x=>(match x.get e with
  |.v (.map (some b))=>akl h b λr h=>g8 n d (.v (.pointer (some ⟨r,0,none⟩))) e L h K
  |_=>False)
 |.next x=>(match x.get e with
  |.v (.pointer (some ⟨r,0,none⟩))=>akk h r λv h=>g8 n d (.v v) e L h K
  |_=>False)
 |.entry x=>(match x.get e with
  |.v (.pointer (some ⟨r,0,none⟩))=>ake h r λv=>g8 n d (.v v) e L h K
  |_=>False)
 |.invoke name x args=>(match x.get e with
  |.v (.iface t v)=>aki P t v name λf r=>Bd P n f (.v r::args.map (eb.get e)) d e L h K
  |_=>False)
 |.raw U=>mx 40 (U.operands.toList.map λx=>(bS x).get e) (λL h=>match ph L (U.operands.toList.map λx=>(bS x).get e)with
  |some aG=>hc (λL h=>Xz P U aG h λv h=>g8 n d (.v v) e L h K) L h
  |none=>False) L h
 |k=>fh k e L h λx=>g8 n d x e L h K
section
variable {P:eN}{al:J}{a':bw}{n:Nat}{β:Nat->Nat}{L:List LE}{h:J}{e:cy}{a:Act}{w:bw}
def jk(al:J)(a':bw)(n:Nat)(C:(Nat->Nat)->Prop)(K:fw)(next:Act->bw->Prop):Prop:=∀β e L h a w,C β->cX al a' β L h w->dn n β L e a->dN L->K e L h->next a w
def Any:(Nat->Nat)->Prop:=λ_=>True
theorem j2(b:jk al a' n C K next)(hC:C β)(m:cX al a' β L h w)(r:dn n β L e a)(f:dN L){d:Option Nat}(j:x.ok L)(hp:g8 n d x e L h K):next (a.put d (x.c β)) w:=by
 cases d with
 |none=>exact b _ _ _ _ _ _ hC m r f hp
 |some d=>
  simp only[g8]at hp;cases g:Qu d n with
  |false=>grind
  |true=>
   rw[g]at hp;have i:d<n:=Nat.lt_of_succ_le (yc g);exact b _ _ _ _ _ _ hC m (r.put i j) f hp
theorem r1{U:cp}(b:(dk a.eval U).run P w= .ok (.value v) bk)(hk:next (a.put U.dst v) bk):U.wp P a w next Q:=by
 unfold BF;rw[b];exact hk
theorem Lw{U:cp}(b:(dk a.eval U).run P w= .ok .skip bk)(hk:next (a.put U.dst fp) bk):U.wp P a w next Q:=by
 unfold BF;rw[b];exact hk
theorem HI(s:kq β L h w)(d:zf L x=some v):x.c1 β=v/\(∀xs,x≠.a xs):=by
 cases x with
 |v y=>injection d with d;exact⟨d,λ_ e=>by cases e⟩
 |a xs=>cases d
 |p i off=>
  simp only[zf]at d;split at d;rename_i b f;injection d with d;subst d;have:=s.cA i _ f;simp only[LE.fu]at this;subst this;exact⟨rfl,λ_ e=>by cases e⟩
  grind
 |s i off l c=>
  simp only[zf]at d;split at d;rename_i b f;injection d with d;subst d;have:=s.cA i _ f;simp only[LE.fu]at this;subst this;exact⟨rfl,λ_ e=>by cases e⟩
  grind
 |m i=>
  simp only[zf]at d;split at d;rename_i b f;injection d with d;subst d;have:=s.cA i _ f;simp only[LE.fu]at this;subst this;exact⟨rfl,λ_ e=>by cases e⟩
  grind
theorem CR(s:kq β L h w):∀cs aG,q7 L cs=some aG->cs.map (aK.c1 β)=aG
 |[],aG,a=>by cases a;rfl
 |x::cs,aG,a=>by
  simp only[q7]at a;split at a;rename_i v r b c;injection a with a;subst a;rw[ec,(HI s b).1,CR s cs r c]
  grind
theorem aB1(s:kq β L h w)(b:raw L x=some v):x.c β=v:=by
 cases x with
 |a xs=>
  simp only[raw]at b;split at b;rename_i r d;injection b with b;subst b;show IC _=_;rw[CR s xs r d]
  grind
 |v y=>simp only[raw]at b;exact(HI s b).1
 |p i off=>simp only[raw]at b;exact(HI s (x:=.p i off) b).1
 |s i off l c=>simp only[raw]at b;exact(HI s (x:=.s i off l c) b).1
 |m i=>simp only[raw]at b;exact(HI s (x:=.m i) b).1
theorem xN(s:kq β L h w):∀cs aG,ph L cs=some aG->cs.map (aK.c β)=aG
 |[],aG,a=>by cases a;rfl
 |x::cs,aG,a=>by
  simp only[ph]at a;split at a;rename_i v r b d;injection a with a;subst a;rw[ec,aB1 s b,xN s cs r d]
  grind
theorem cX.fH(m:cX al a' β L h w){i:Nat}{l:LE}(d:cz L i=some l)(j:l.live=true)(B:cw.live=false)(s:cw.isRow=false)(x:cw.fu β i w){U:Obj}(A:w.heap[β i]?=some U):cX al a' β (gV L i cw) (h.put (β i) U) w/\(∀o,fo L o->fo (gV L i cw) o):=by
 have f:=ny d;have u:∀o k,cz (gV L i cw) o=some k->(o=i/\k=cw)\/(o≠i/\cz L o=some k):=by
  intro o k hk;rw[qk _ _ _ _ f]at hk
  grind
 have c:∀o k,cz (gV L i cw) o=some k->k.live=true->o≠i/\cz L o=some k:=by
  grind
 refine⟨⟨⟨λo v b=>?_,λo k hk=>?_⟩,λo k hk a=>?_,λo p k n hk t a g he=>?_,λo k hk a=>?_,λo k hk a=>?_,m.os,m.tape,m.output,m.size,m.frame,λo b=>?_⟩,λo b=>?_⟩;by_cases e:o=β i;subst e;rw[J.b1]at b;grind;rw[J.cB _ _ e]at b;exact m.cA.hw o v b;rcases u o k hk with⟨z,y⟩|⟨_,hk⟩
 grind
 exact m.cA.cA o k hk;obtain⟨q,hk⟩:=c o k hk a;rw[J.cB _ _ (λe=>q (m.inj o i k l hk d a j e))];exact m.hole o k hk a;exact m.inj o p k n (c o k hk a).2 (c p n t g).2 a g he;exact m.lt o k (c o k hk a).2 a;exact m.cQ o k (c o k hk a).2 a;by_cases e:o=β i;subst e;exact m.cQ i l d j;rw[J.cB _ _ e]at b;exact m.fresh o b;obtain⟨k,hk,r⟩:=b;by_cases e:o=i;exact⟨cw,by rw[qk _ _ _ _ f,aP e],s⟩;exact⟨k,by rw[qk _ _ _ _ f,aD e];exact hk,r⟩
theorem dN.va(b:dN L){i:Nat}(d:i<L.length)(hm:∀o,fo L o->fo (gV L i cw) o)(f:∀cs ty,cw≠.own cs ty):dN (gV L i cw):=by
 intro o e t a x c;rw[qk _ _ _ _ d]at a;split at a
 grind
 exact z' (b o e t a x c) hm
theorem xL xs{K:List LE->J->Prop}:∀b L h,cX al a' β L h w->dN L->mx b xs K L h->∃bu aa,K bu aa/\cX al a' β bu aa w/\dN bu/\(∀i,fo L i->fo bu i)/\bu.length=L.length
 |0,_,_,_,_,hp=>hp.elim
 |b+1,L,h,m,j,hp=>by
  simp only[mx]at hp;split at hp
  grind
  rename_i i f;split at hp
  grind
  rename_i i _;split at hp;rename_i cs ty a;split at hp;rename_i aG t;obtain⟨k⟩:=hp;have n:=m.hole i _ a rfl;have s:=CR m.cA cs aG t;have d:=m.cA.cA i _ a;simp only[LE.fu,s]at d;obtain⟨q,c⟩:=m.fH (cw:=.b4 (β i)) a rfl rfl rfl rfl d;obtain⟨bu,aa,h1,ae,p,g,r⟩:=xL xs b _ _ q (j.va (ny a) c (λ_ _ e=>by cases e)) (by have:=k (β i) n;rwa[xk]at this);exact⟨bu,aa,h1,ae,p,λo l=>g o (c o l),by rw[r,ayL]⟩
  grind
  grind
theorem sW{K:List LE->J->Prop}(hp:hc K L h):∀β,cX al a' β L h w->dN L->∃cn bu aa,K bu aa/\cX al a' cn bu aa w/\dN bu/\(∀i,fo L i->fo bu i)/\(∀i,fo L i->cn i=β i):=by
 induction hp with
 |ah k=>grind
 | @b4 L h i bK size A n cap xs d k G=>
  intro β m v;have z:=m.cA.cA i _ d;simp only[LE.fu]at z;obtain⟨⟨h1,ae⟩,au⟩:=z;have B:=ny d;rcases ae with⟨ae,aA⟩|⟨g,c,H,M,aQ,cV,I⟩;injection ae with aV uR ay;subst aV;have R:∀o,fo L o->fo (gV L i .gone) o:=λo⟨q,j,JU⟩=>by
   by_cases e:o=i;exact⟨.gone,by rw[qk _ _ _ _ B,aP e],rfl⟩;exact⟨q,by rw[qk _ _ _ _ B,aD e];exact j,JU⟩
  have r:∀o q,cz (gV L i .gone) o=some q->q= .gone\/cz L o=some q:=by
   intro o q j;rw[qk _ _ _ _ B]at j
   grind
  have D:∀o q,cz (gV L i .gone) o=some q->q.live=true->cz L o=some q:=λo q j a=>by
   rcases r o q j with rfl|U;cases a;omega
  have u:cX al a' β (gV L i .gone) h w:=⟨⟨m.cA.hw,λo q j=>by
   rcases r o q j with rfl|U;trivial;exact m.cA.cA o q U⟩,λo q j a=>m.hole o q (D o q j a) a,λo V q fg j tz a C=>m.inj o V q fg (D o q j a) (D V fg tz C) a C,λo q j a=>m.lt o q (D o q j a) a,
   λo q j a=>m.cQ o q (D o q j a) a,m.os,m.tape,m.output,m.size,m.frame,m.fresh⟩
  obtain⟨cn,bu,aa,O,P,Q,T,S⟩:=G h (J.le_refl h) ⟨h1,.inl ⟨rfl,aA,ay⟩⟩ (λg e=>by cases e) β u (v.va B R (λ_ _ e=>by cases e))
  grind
  injection M with M sg sh;subst M;subst sh;have F:=au _ rfl;simp only at F;have W:=m.hole i _ d rfl;rw[<-F]at W;obtain⟨u,R⟩:=m.fH (cw:=.gone) d rfl rfl rfl trivial (by rw[<-F];exact cV);rw[<-F]at u;obtain⟨cn,bu,aa,O,P,Q,T,S⟩:=G (h.put g (.cells H bK (0,0))) (J.dI W) ⟨h1,.inr ⟨g,H,rfl,J.b1 _ _ _,I.1,I.2.1,I.2.2.1,I.2.2.2⟩⟩ (λcf e=>aJ) β u (v.va B R (λ_ _ e=>by cases e))
  grind
 | @abs L h bK size A n cap xs aq k G=>
  intro β m v;obtain⟨h1,ae⟩:=aq;have hblk:∃b,(∀g,A=some g->g.block=b):=by
   cases A with
   |none=>simp
   |some g=>simp
  obtain⟨b,E⟩:=hblk;have Y:∀o,(∀g,A=some g->o≠g.block)->eP h A o=h o:=λo p=>by
   cases A with
   |none=>rfl
   |some g=>exact J.mJ h (p g rfl)
  have N:(eP h A).le h:=by
   cases A with
   |none=>exact J.le_refl h
   |some g=>exact J.ZR h _
  have y:∀g,A=some g->h g.block≠none:=λg e=>by
   grind
  have r:∀i l,cz (L++[LE.row bK size A n cap xs]) i=some l->(i<L.length/\cz L i=some l)\/(i=L.length/\l= .row bK size A n cap xs):=by
   intro i l ak;rw[xK]at ak
   grind
  have s:∀i,i<L.length->(if i=L.length then b else β i)=β i:=λi d=>by grind
  have NI:∀i,fo L i->(if i=L.length then b else β i)=β i:=λi d=>s i (O4 d);have b':∀i l,cz L i=some l->l.live=true->∀g,A=some g->β i≠g.block:=λi l ak a g e he=>by
   have:=m.hole i l ak a
   grind
  have u:cX al a' (λi=>if i=L.length then b else β i) (L++[.row bK size A n cap xs]) (eP h A) w:=by
   refine⟨⟨m.cA.hw.mono N,λi l ak=>?_⟩,λi l ak a=>?_,λi o l cw ak mi a C he=>?_,λi l ak a=>?_,λi l ak a=>?_,m.os,m.tape,m.output,m.size,m.frame,λo p=>?_⟩;rcases r i l ak with⟨d,ak⟩|⟨rfl,rfl⟩;have z:=m.cA.cA i l ak;cases l with
   |own cs X=>simp only[LE.fu]at z⊢;rw[s i d,Gk (v i cs X ak) NI];exact z
   |b4 dA=>grind [LE.fu]
   |row=>grind [LE.fu]
   |map f k=>grind [LE.fu]
   |gone=>trivial
   simp only[LE.fu,lY];refine⟨⟨h1,?_⟩,E⟩;rcases ae with⟨rfl,rfl,rfl⟩|⟨g,H,rfl,aH,bp,ch,e0,l1⟩;simp;exact .inr ⟨g,cap,H,rfl,cW _,m.cA.hw _ _ aH,bp,ch,e0,l1⟩;rcases r i l ak with⟨d,ak⟩|⟨rfl,rfl⟩;rw[s i d,Y _ (b' i l ak a)];exact m.hole i l ak a;simp only[lY];cases A with
   |none=>cases a
   |some g=>rw[<-E g rfl];exact J.Gn h _
   rcases r i l ak with⟨d,q⟩|⟨aL,q⟩<;>rcases r o cw mi with⟨p,fg⟩|⟨Z,fg⟩;rw[s i d,s o p]at he;exact m.inj i o l cw q fg a C he;rw[s i d,aP Z]at he;subst fg;cases A with
   |none=>cases C
   |some g=>grind
   rw[s o p,aP aL]at he;subst q;cases A with
   |none=>cases a
   |some g=>grind
   omega;rcases r i l ak with⟨d,ak⟩|⟨rfl,rfl⟩;rw[s i d];exact m.lt i l ak a;simp only[lY];cases A with
   |none=>cases a
   |some g=>rw[<-E g rfl];exact m.cA.hw.lt (y g rfl)
   rcases r i l ak with⟨d,ak⟩|⟨rfl,rfl⟩;rw[s i d];exact m.cQ i l ak a;simp only[lY];cases A with
   |none=>cases a
   |some g=>rw[<-E g rfl];exact m.fresh _ (y g rfl)
   refine m.fresh o λe=>p ?_
   grind
  have fV:dN (L++[.row bK size A n cap xs]):=by
   intro i cs t d x af;rcases r i _ d with⟨_,d⟩|⟨_,d⟩;exact z' (v i cs t d x af) λi=>u7 _
   grind
  obtain⟨cn,bu,aa,O,P,Q,T,S⟩:=G _ u fV;exact⟨cn,bu,aa,O,P,Q,λo p=>T o (u7 _ p),λo p=>by rw[S o (u7 _ p)];grind⟩
end
section
variable {P:eN}{al:J}{a':bw}{n:Nat}{β:Nat->Nat}{L:List LE}{h:J}{e:cy}{a:Act}{w:bw}
theorem aF4{U:cp}{V:aK->Prop}(s:kq β L h w)(b:∃bH,V bH/\bH.ok L/\Yields P U a β L h bH)(hk:∀bH,bH.ok L->V bH->next (a.put U.dst (bH.c β)) w):U.wp P a w next Q:=by
 obtain⟨bH,h1,ae,d⟩:=b;exact r1 (d w s) (hk bH ae h1)
theorem UW{U:cp}(hC:∀cn,(∀i,i<L.length->cn i=β i)->C cn)(g:jk al a' n C K next)(m:cX al a' β L h w)(r:dn n β L e a)(b:dN L){cells:List aK}(ay:∀x∈cells,x.iQ L){bH:aK}(f:∀cn,cn L.length=w.heap.size->(dk a.eval U).run P w= .ok (.value (bH.c cn)) {w with heap:=w.heap.push (.cells (cells.map (aK.c1 β)).toArray ty)})(o:bH.ok (L++[.own cells ty]))(hp:g8 n U.dst bH e (L++[.own cells ty]) h K):U.wp P a w next Q:=by
 obtain⟨cn,d,l,k⟩:=m.push b ay ty;exact r1 (f cn l) (j2 g (hC cn d) k (r.agree (λi j=>d i (O4 j)) (λi=>u7 _)) (b.push ay ty) o hp)
theorem Hu(aE:List ax):∀x∈aE.map aK.v,x.iQ L:=by
 intro x a;obtain⟨v,_,rfl⟩:=cU.1 a;trivial
theorem aaI{U:cp}{i:BP}(d:U.op= .alloc t)(j:P.info? t=some i)(b:i.zero=some z)(hC:∀cn,(∀i,i<L.length->cn i=β i)->C cn)(f:jk al a' n C K next)(m:cX al a' β L h w)(r:dn n β L e a)(g:dN L)(hp:fZ P n (.alloc t z.cells.toList) U.dst e L h K):U.wp P a w next Q:=by
 simp only[fZ,DV,xk]at hp;refine UW hC f m r g (cells:=z.cells.toList.map .v) (ty:=t) (Hu _) (bH:=.p L.length 0) (λcn k=>?_) (VR _ _) hp;rw[DE];simp[dk,d,Instr.alloc,zeroValue,Ba,j,b,newVar,newRow,aK.c,aK.c1,k]
theorem Mq(b:cellsOf x=some cs)(hk:x.ok L):∀y∈cs,y.iQ L:=by
 cases x with
 |a xs=>injection b with b;subst b;exact hk
 |v y=>
  cases y with
  |agg d=>injection b with b;subst b;exact Hu _
  |tuple d=>cases b
  |_=>injection b with b;subst b;intro y c;rw[hV.1 c];trivial
 |_=>injection b with b;subst b;intro y c;rw[hV.1 c];exact hk
theorem aaJ{U:cp}{x:fM}(d:U.op= .box t x)(hC:∀cn,(∀i,i<L.length->cn i=β i)->C cn)(f:jk al a' n C K next)(m:cX al a' β L h w)(r:dn n β L e a)(g:dN L)(hp:fZ P n (.box t (bS x)) U.dst e L h K):U.wp P a w next Q:=by
 simp only[fZ,DV,xk]at hp;split at hp;rename_i cs b;refine UW hC f m r g (cells:=cs) (ty:=t) (Mq b (r.rU x)) (bH:=.p L.length 0) (λcn j=>?_) (VR _ _) hp;have:=Mp (β:=β) b;simp[dk,d,r.eval x,Instr.box,newVar,newRow,aK.c1,aK.c,j,<-this]
 grind
theorem ahq:∀k z,(Fc k z).map (aK.c1 β)=(bh k z).flatten
 |0,z=>rfl
 |k+1,z=>by rw[Fc,fF,DE,ahq k z,wS,oR]
theorem ahr:∀k z,∀x∈Fc k z,x.iQ L
 |0,z,x,a=>by cases a
 |k+1,z,x,a=>by
  simp only[Fc,List.mem_append]at a;rcases a with a|a;exact Hu _ x a;exact ahr k z x a
theorem abk:∀aO(cs:Array ax) off k,off+k+aO.length<=cs.size->((aO.zipIdx k).foldl (λcs x=>cs.setIfInBounds (off+x.2) x.1) cs).toList=cs.toList.take (off+k)++aO++cs.toList.drop (off+k+aO.length)
 |[],cs,off,k,h=>by simp
 |y::aO,cs,off,k,h=>by
  simp only[List.zipIdx_cons,List.foldl_cons];rw[abk aO _ off (k+1) aJ];simp only[Array.toList_setIfInBounds,iv]at h⊢;have hk:off+k<cs.toList.length:=aJ;rw[show off+(k+1)=off+k+1 by omega,List.take_set,List.drop_set,aP I];rw[List.set_eq_take_append_cons_drop]
  grind
theorem Vn{α:Type}:∀off(l aO r:List α),over l off aO=some r->r=l.take off++aO++l.drop (off+aO.length)
 |0,l,[],r,h=>by grind [over]
 |0,[],y::aO,r,h=>by grind [over]
 |0,x::l,y::aO,r,h=>by
  simp only[over]at h;split at h;rename_i b a;injection h with h;subst h;have:=Vn 0 l aO b a
  grind
  grind
 |off+1,[],aO,r,h=>by grind [over]
 |off+1,x::l,aO,r,h=>by
  simp only[over]at h;split at h;rename_i b a;injection h with h;subst h;have:=Vn off l aO b a
  grind
  grind
theorem MQ{T:Type} place(f:T->Nat×aK) g:∀(xs:List T) cs r,(∀x∈xs,place (f x).1=some ((g x).1,(g x).2.1)/\(f x).2=(g x).2.2)->Aj cs (xs.map g)=some r->XI place (cs.map (aK.c1 β)).toArray (xs.map λx=>((f x).1,(f x).2.c β))=some (r.map (aK.c1 β)).toArray
 |[],cs,r,b,a=>by
  grind [Aj,XI]
 |p::j,cs,r,b,a=>by
  obtain⟨g1,g2⟩:=b p (hU ..);have ae:=λx k=>b x (List.mem_cons_of_mem p k);rw[ec]at a;generalize l:g p=q at a g1 g2;obtain⟨off,size,x⟩:=q;simp only[Aj]at a;split at a;rename_i aO i;cases e:hW aO.length size with
  |false=>grind
  |true=>
   rw[e]at a;simp only[oY]at a;split at a;rename_i h d;have ak:aO.length=size:=qA e;have ay:=Mp (β:=β) i;simp only at g1 g2;have m:=KN _ _ _ _ d;have n:((f p).2.c β).cells.size=size:=by simp[g2,<-ak,<-Array.length_toList,ay]
   simp only[ec,XI,g1];rw[aD (by
    grind)]
   rw[g2,show((x.c β).cells.zipIdx).foldl (λcs(x:ax×Nat)=>cs.setIfInBounds (off+x.2) x.1) (cs.map (aK.c1 β)).toArray=(h.map (aK.c1 β)).toArray from ?_];exact MQ place f g j h r ae a;apply xZ;rw[<-Array.foldl_toList,Array.toList_zipIdx,ay];rw[abk _ _ off 0 aJ];have:=Vn _ _ _ _ (KO (aK.c1 β) _ _ _ _ d)
   grind
   grind
  grind
theorem MP:∀c cs r,Aj cs c=some r->(∀x∈cs,x.iQ L)->(∀q∈c,q.2.2.ok L)->∀x∈r,x.iQ L
 |[],cs,r,a,ay,_=>by grind [Aj]
 |(off,size,y)::c,cs,r,a,ay,d=>by
  simp only[Aj]at a;split at a;rename_i aO e;cases g:hW aO.length size with
  |false=>grind
  |true=>
   rw[g]at a;simp only[oY]at a;split at a;rename_i h f;refine MP c h r a (λx b=>?_) λq i=>d q aJ;rcases Vk f b with b|b
   grind
   exact Mq e (d _ (hU ..)) x b
   grind
  grind
end
section
variable {P:eN}{al:J}{a':bw}{n:Nat}{β:Nat->Nat}{L:List LE}{h:J}{e:cy}{a:Act}{w:bw}
theorem aa'{α:Type}(l:List α):∀k o,o<k*l.length->(bh k l).flatten[o]?=l[o%l.length]?
 |0,o,h=>by simp at h
 |k+1,o,h=>by
  rw[wS,oR,Dl];split;rename_i a;rw[Nat.mod_eq_of_lt a];rename_i a;have b:l.length<=o:=Nat.le_of_not_lt a;rw[aa' l k (o-l.length) aJ,Nat.mod_eq_sub_mod b]
theorem UG{z:Array ax}{s:Nat}(a:z.size=s) k:(sI z (k*s)).toList=(bh k z.toList).flatten:=by
 subst a;apply List.ext_getElem?;intro o;by_cases b:o<k*z.size;have hp:0<z.size:=by
  grind
 have hm:o%z.size<z.size:=Nat.mod_lt _ hp;rw[aa' z.toList k o I];simp[sI,b,hm];rw[l6 (by grind [sI]),l6 (by simp_all)]
theorem aaK{U:cp}{t len:Nat}{b:Array (Nat×fM)}{i:BP}(u:U.op= .buildSlice t len b)(hu:P.underlying t=some (.slice el))(g:P.info? el=some i)(B:i.zero=some z)(J:z.cells.size=i.size)(hC:∀cn,(∀i,i<L.length->cn i=β i)->C cn)(E:jk al a' n C K next)(m:cX al a' β L h w)(r:dn n β L e a)(F:dN L)(hp:fZ P n (.Gd el len i.size z.cells.toList (b.toList.map λp=>(p.1,bS p.2))) U.dst e L h K):U.wp P a w next Q:=by
 simp only[fZ,DV,xk]at hp;cases v:p0 (len*i.size) 16777216 with
 |false=>grind
 |true=>
  rw[v]at hp;simp only[oY,iD]at hp;split at hp;rename_i cs y;have N:len*i.size<=16777216:=yc v;refine UW hC E m r F (cells:=cs) (ty:=el) ?_ (bH:=.s L.length 0 len len) (λcn A=>?_) (VR _ _) hp;exact MP _ _ _ y (ahr _ _) λq f=>by
   obtain⟨p,_,rfl⟩:=cU.1 f;exact r.rU p.2
  have d:=MQ (β:=β) (λo=>some (o*i.size,i.size)) (λp:Nat×fM=>(p.1,(bS p.2).get e)) (λp=>(p.1*i.size,i.size,(bS p.2).get e)) b.toList (Fc len z.cells.toList) cs (λp _=>⟨rfl,rfl⟩) y;have H:(Ii (λx:Nat×fM=>(x.1,aK.c β (eb.get e (bS x.2)))) b.toList)=(Ii (λx:Nat×fM=>(x.1,a.eval x.2)) b.toList):=mG λp _=>by rw[r.eval p.2]
  simp only at d;rw[H,ahq]at d;have l:=UG (z:=z.cells) J len;by_cases f:len*i.size=0;have M:(bh len z.cells.toList).flatten=[]:=x9 (by simp_all);rw[M]at d;simp[dk,u,akv,gM hu,run_sizeOf g,f,newRow,aK.c,aK.c1,A,d,Array.range_zero'];have D:¬(len*i.size>2^24):=I;have G:((Array.range (len*i.size)).map λk=>z.cells[k%z.cells.size]!)=(bh len z.cells.toList).flatten.toArray:=xZ l;have j:¬(16777216<len*i.size):=I;simp[dk,u,akv,gM hu,run_sizeOf g,j,f,zeroValue,Ba,g,B,G,d,newRow,aK.c,aK.c1,A]
  grind
theorem cX.ajI(m:cX al a' β L h w){cs s:List ax}(E:h b=some (.cells cs.toArray ty (0,0))):cX al a' β L (h.put b (.cells s.toArray ty (0,0))) (wr w b ty s):=by
 have y:b<w.heap.size:=m.cA.hw.lt aJ;have q:∀i l,cz L i=some l->l.live=true->β i≠b:=λi l ak j e=>by
  have:=m.hole i l ak j
  grind
 refine⟨⟨λo U a=>?_,λi l ak=>?_⟩,λi l ak j=>?_,m.inj,λi l ak j=>by rw[PO];exact m.lt i l ak j,m.cQ,m.os,m.tape,m.output,by rw[PO];exact m.size,λo a t=>?_,λo a=>?_⟩;by_cases e:o=b;subst e;rw[J.b1]at a;injection a with a;subst a;exact Lx w _ y;rw[J.cB _ _ e]at a;rw[od w _ e];exact m.cA.hw o U a;have d:=m.cA.cA i l ak;cases l with
 |own D C=>simp only[LE.fu]at d⊢;rw[od w _ (q i _ ak rfl)];exact d
 |b4 G=>exact d
 |row bK size A n cap xs=>
  simp only[LE.fu]at d⊢;obtain⟨⟨h1,ae⟩,r⟩:=d;refine⟨⟨h1,?_⟩,r⟩;rcases ae with ae|⟨g,c,v,p,u,x,z⟩
  grind
  injection p with p H B;have F:=r _ p;subst p;exact .inr ⟨g,c,v,by rw[B],u,by rw[od w _ (by have:=q i _ ak rfl;grind)];exact x,z⟩
 |map f k=>simp only[LE.fu]at d⊢;rw[od w _ (q i _ ak rfl)];exact d
 |gone=>trivial
 rw[J.cB _ _ (q i l ak j)];exact m.hole i l ak j;by_cases e:o=b;subst e;rcases m.fresh o aJ with e|e
 grind
 omega;rw[od w _ e];exact m.frame o a t;by_cases e:o=b;subst e;exact m.fresh o aJ;rw[J.cB _ _ e]at a;exact m.fresh o a
theorem Vj{α:Type}(a:List α):∀off l aO r,over l off aO=some r->over (l++a) off aO=some (r++a)
 |0,l,[],r,h=>by grind [over]
 |0,[],y::aO,r,h=>by grind [over]
 |0,x::l,y::aO,r,h=>by
  simp only[over]at h;split at h;rename_i c b;injection h with h;subst h;simp[over,Vj a 0 l aO c b]
  grind
 |off+1,[],aO,r,h=>by grind [over]
 |off+1,x::l,aO,r,h=>by
  simp only[over]at h;split at h;rename_i c b;injection h with h;subst h;simp[over,Vj a off l aO c b]
  grind
theorem apg{K:List LE->J->Prop}{z:aI}(m:cX al a' β L h w)(r:dN L)(hp:H8 L h z aG K){t:Nat}(y:jK P t=true)(B:v.cells.toList=aG)(ak:aG.length=jh P t)(h1:∀u∈aG,u.oneCell'=true):∃bu aa bk,K bu aa/\(aiu t z v).run P w= .ok () bk/\cX al a' β bu aa bk/\dN bu/\(∀i,fo L i->fo bu i):=by
 cases hp with
 |hp b off ty cs U n s l k=>
  subst n;exact⟨_,_,_,k,Pg y aJ (m.cA.hw _ _ s) aJ aJ,m.ajI s,r,λ_=>id⟩
 |row i bK size g f cap xs p o j n l k=>
  obtain⟨⟨O,q⟩,C⟩:=m.cA.cA i _ j;rcases q with⟨q,_⟩|⟨T,c,a,d,Q,S,F,G,X,M⟩
  grind
  injection d with d W H;injection d with d;subst d;subst H;have x:=C _ rfl;simp only at x;subst x;rw[n,add_lit];have V:=KN _ _ _ _ l;have Y:a.toList=xs++a.toList.drop (f*size):=by
   simp[<-M]
  have N:over a.toList (0+o) aG=some (p++a.toList.drop (f*size)):=by
   have R:=Vj (a.toList.drop (f*size)) _ _ _ _ l
   grind
  have E:=Pg (P:=P) y (b:=β i) (off:=0+o) (ty:=bK) (v:=v) (w:=w) (cs:=a.toList) aJ I aJ (by rw[B];exact N);obtain⟨D,A⟩:=m.write (cw:=.row bK size (some ⟨β i,0,none⟩) f cap p) j rfl rfl rfl (ty:=bK) (cs:=p++a.toList.drop (f*size)) (by
   refine⟨⟨I,.inr ⟨β i,cap,_,rfl,cW _,Lx w _ (m.lt i _ j rfl),F,G,?_,?_⟩⟩,λg e=>aJ⟩
   grind
   grind)
  exact⟨_,_,_,k,E,D,r.va (ny j) A (λ_ _ e=>by cases e),A⟩
theorem apB{U:cp}{x y:fM}(A:U.op= .store t x y)(E:jK P t=true)(C:jk al a' n Any K next)(m:cX al a' β L h w)(r:dn n β L e a)(q:dN L)(hp:fZ P n (.store (jh P t) (bS x) (bS y)) U.dst e L h K):U.wp P a w next Q:=by
 have D:=r.eval x;have B:=r.eval y;simp only[fZ]at hp;split at hp;rename_i cs G;cases j:(Hw cs&&hW cs.length (jh P t))with
 |false=>grind
 |true=>
  rw[j]at hp;simp only[h0]at j;simp only[oY]at hp;have eH:cs.length=jh P t:=qA j.2;have I:=Mp (β:=β) G;have h1:=agu (β:=β) j.1;have raw:∀g:aI,((bS x).get e).c β= .pointer (some g)->mx 40 cs (λL h=>match q7 L cs with
   |some aG=>H8 L h g aG λL h=>g8 n U.dst (.v fp) e L h K
   |none=>False) L h->U.wp P a w next Q:=by
   intro g s Z
   obtain⟨bu,aa,F,k,V,l,_⟩:=xL cs _ _ _ m q Z
   split at F
   rename_i aG X
   have an:=CR k.cA cs aG X
   obtain⟨mD,ae,Y,M,J,O,R,S⟩:=apg (P:=P) k V F E (v:=((bS y).get e).c β) aJ aJ aJ
   exact Lw (bk:=Y) (by simp[dk,A,D,B,s,akA,qz,J]) (j2 C trivial O (r.agree (λ_ _=>rfl) λi d=>S i (l i d)) R (x:=.v fp) trivial M)
   grind
  split at hp;rename_i i off p;split at hp;rename_i xs ty d;split at hp;rename_i o H;have u:=m.cA.cA i _ d;simp only[LE.fu]at u;have N:=KO (aK.c1 β) _ _ _ _ H;have W:=Pg (P:=P) E (b:=β i) (off:=off) (ty:=ty) (v:=((bS y).get e).c β) (w:=w) aJ u aJ (by rw[I];omega);have T:∀z∈o,z.iQ L:=λz f=>by
   rcases Vk H f with f|f;exact q i xs ty d z f;exact Mq G (r.rU y) z f
  obtain⟨k,l⟩:=m.write (cw:=.own o ty) d rfl rfl rfl (ty:=ty) (cs:=o.map (aK.c1 β)) (by simp only[LE.fu];exact Lx w _ (m.lt i _ d rfl));exact Lw (bk:=wr w (β i) ty (o.map (aK.c1 β))) (by simp_all[dk,A,D,B,p,aK.c1,aK.c,akA,qz,W]) (j2 C trivial k (r.agree (λ_ _=>rfl) l) (q.ah0 (ny d) l T) (x:=.v fp) trivial (by rwa[xk]at hp))
  grind
  rename_i b d;exact raw ⟨b,off,none⟩ (by rw[p];exact Wh m.cA d) hp
  grind
  rename_i g p;exact raw g (by rw[p];rfl) hp
  grind
 grind
theorem A6{args:Array ax}(b:∃fn,P.funcs[f]?=some fn/\fn.body.isSome=true/\(fn.name== "runtime.NumGoroutine")=false):(callFunc f args).run P w= .ok (.enter f args) w:=by
 obtain⟨fn,h1,ae,c⟩:=b;have a:fn.body.isNone=false:=by simp_all
 simp only[callFunc,ic,run_program,im,h1,c,a,ug,mm,k8]
theorem cX.ext(m:cX al a' β L h w){aa:J}(x:Ext h w aa bk):cX al a' β L aa bk:=by
 have hblk:∀i l,cz L i=some l->l.live=true->bk.heap[β i]?=w.heap[β i]? :=λi l ak d=>x.frame _ (m.lt i l ak d) (m.hole i l ak d);refine⟨⟨x.hw,λi l ak=>?_⟩,λi l ak d=>?_,m.inj,λi l ak d=>Qw (m.lt i l ak d) x.size,m.cQ,x.os.trans m.os,x.tape.trans m.tape,x.output.trans m.output,og m.size x.size,λo n r=>?_,λo n=>?_⟩;have e:=m.cA.cA i l ak;cases l with
 |own cs ty=>simp only[LE.fu]at e⊢;rw[hblk i _ ak rfl];exact e
 |b4 b=>exact e
 |row bK size A B cap xs=>
  simp only[LE.fu]at e⊢;obtain⟨⟨h1,ae⟩,q⟩:=e;refine⟨⟨h1,?_⟩,q⟩;rcases ae with ae|⟨g,c,u,j,s,v,y⟩
  grind
  injection j with j C z;have p:=q _ j;subst j;simp only at p;refine .inr ⟨g,c,u,by rw[z],s,?_,y⟩;rw[p,hblk i _ ak rfl,<-p];exact v
 |map f k=>simp only[LE.fu]at e⊢;rw[hblk i _ ak rfl];exact e
 |gone=>trivial
 cases t:aa (β i)with
 |none=>rfl
 |some U=>
  rcases x.fresh (β i) aJ with a|a;exact absurd (m.hole i l ak d) a;have:=m.lt i l ak d;omega
 have:h o=none:=by
  cases t:h o with
  |none=>rfl
  |some U=>
   rcases m.fresh o aJ with a|a
   grind
   omega
 rw[x.frame o (Qw n m.size) this];exact m.frame o n r;rcases x.fresh o n with a|a;exact m.fresh o a;exact .inr (og m.size a)
theorem W2{U:cp}{fA:List aK}(j:jk al a' n Any K next)(m:cX al a' β L h w)(r:dn n β L e a)(z:dN L)(hp:Bd P n f fA U.dst e L h K)(p:∀aG,fA.map (aK.c β)=aG->(∃fn,P.funcs[f]?=some fn/\fn.body.isSome=true/\(fn.name== "runtime.NumGoroutine")=false)->(dk a.eval U).run P w= .ok (.enter f aG.toArray) w):U.wp P a w next Q:=by
 unfold Bd at hp;obtain⟨M,h1,l,m1,D,G,_⟩:=xL fA _ _ _ m z hp;split at l;rename_i aG C;have ay:=xN m1.cA fA aG C;obtain⟨s,E,ae,A,m2,q,I,H⟩:=sW l β m1 D;have o:dn n s E e a:=(r.agree (λ_ _=>rfl) G).agree H I;cases A with
 |mk ar b k=>
  unfold BF;rw[p aG ay b.body,Iw];refine(b.run w m2.cA.hw).mono ?_;rintro F bk ⟨v,aa,rfl,i,d⟩;exact j2 j trivial (m2.ext d) o q (x:=.v v) trivial (k v aa i)
 |mq ar b k=>
  unfold BF;rw[p aG ay b.body,Iw];refine(b.run w m2.cA.hw).mono ?_;rintro F bk ⟨v,aa,rfl,i,d⟩;obtain⟨y,N,J,B,m3,u,t,g⟩:=sW (k v aa i) s (m2.ext d) q;exact j2 j trivial m3 (o.agree g t) u (x:=.v v) trivial B
 grind
theorem aps{U:cp}{args:Array fM}{j:Array fR}(b:U.op= .call {callee:=.value (.func f),args:=args,argTypes:=j})(c:jk al a' n Any K next)(m:cX al a' β L h w)(r:dn n β L e a)(d:dN L)(hp:fZ P n (.call f (args.toList.map bS)) U.dst e L h K):U.wp P a w next Q:=by
 simp only[fZ]at hp;refine W2 c m r d hp λaG i g=>?_;have he:args.map a.eval=aG.toArray:=by
  rw[<-i];apply xZ;simp only[zy,iD];exact mG λx _=>r.eval x
 simp[dk,b,tZ,H5,Act.eval,invoke,he,A6 g]
theorem RP{U:cp}{x:fM}{args:Array fM}{q:Array fR}(g:U.op= .call {callee:=.value x,args:=args,argTypes:=q})(i:jk al a' n Any K next)(m:cX al a' β L h w)(r:dn n β L e a)(j:dN L)(hp:fZ P n (.DF (bS x) (args.toList.map bS)) U.dst e L h K):U.wp P a w next Q:=by
 simp only[fZ]at hp;have b:=r.eval x;split at hp;rename_i f first s t
 rw[t]at b;refine W2 i m r j hp λaG p k=>?_;have he:first++args.map a.eval++s=aG.toArray:=by
  rw[<-p];apply xZ;simp only[Array.toList_append,zy,fF,iD];rw[List.append_assoc];have d:∀l:List ax,l.map (aK.c β∘aK.v)=l:=λl=>by
   induction l with
   |nil=>rfl
   |cons y l o=>rw[ec,o];rfl
  rw[d,d];congr 2;exact mG λy _=>r.eval y
 simp only[dk,g,tZ,H5,b,aK.c,aK.c1,invoke,ic,k8,im];rw[he,A6 k]
 grind
theorem apw{U:cp}{first b:Array fM}(g:U.op= .makeFunc (.func f) first b)(d:first=#[])(i:jk al a' n Any K next)(m:cX al a' β L h w)(r:dn n β L e a)(j:dN L)(hp:fZ P n (.Oq f (b.toList.map bS)) U.dst e L h K):U.wp P a w next Q:=by
 simp only[fZ]at hp;obtain⟨p,h1,c,m1,l,o,_⟩:=xL _ _ _ _ m j hp;split at c;rename_i aG k;have ay:=xN m1.cA _ aG k;have he:b.map a.eval=aG.toArray:=by
  rw[<-ay];apply xZ;simp only[zy,iD];exact mG λx _=>r.eval x
 exact r1 (bk:=w) (v:=.func (.func f) #[] aG.toArray) (by simp[dk,g,d,Instr.makeFunc,he]) (j2 i trivial m1 (r.agree (λ_ _=>rfl) o) l (x:=.v _) trivial c)
 grind
end
section
variable {P:eN}{al:J}{a':bw}{n:Nat}{β:Nat->Nat}{L:List LE}{h:J}{e:cy}{a:Act}{w:bw}
theorem cX.grow(m:cX al a' β L h w)(aW:dN L){i bK N u v:Nat}{n:Option aI}{D:List ax}(t:cz L i=some (.row bK size A N cap xs))(x:w.grownBy bk (F' (.slice A N cap)))(lX:bk.ownsRow 0 bK size (.slice n u v) u D)(mO:F' (.slice n u v)=F' (.slice A N cap)\/F' (.slice n u v)=some w.heap.size):∃cn,(∀o,fo L o->cn o=β o)/\cX al a' cn (gV L i (.row bK size n u v D)) h bk/\(∀o,fo L o->fo (gV L i (.row bK size n u v D)) o)/\(∀o,o≠i->cn o=β o):=by
 have X:=ny t;obtain⟨⟨_,_⟩,aHU⟩:=m.cA.cA i _ t;have hblk:∃b,(∀g,n=some g->g.block=b)/\(n.isSome=true->(A.isSome=true/\b=β i)\/b=w.heap.size):=by
  cases n with
  |none=>simp
  |some g=>
   refine⟨g.block,λcf e=>aJ,λ_=>?_⟩;simp only[F']at mO
   grind
 obtain⟨b,aj,J⟩:=hblk;have O:∀o,o<w.heap.size->(∀g,A=some g->o≠g.block)->bk.heap[o]?=w.heap[o]? :=λo a T=>x.block o a (by
  grind [F'])
 have T:∀o l,o≠i->cz L o=some l->l.live=true->∀g,A=some g->β o≠g.block:=λo l a ak y g e he=>by
  refine a (m.inj o i l _ ak t y (by rw[e];rfl) ?_)
  grind
 have r:∀o,o≠i->(if o=i then b else β o)=β o:=λo a=>aD a;have Q:∀o,fo L o->(if o=i then b else β o)=β o:=λo⟨l,ak,aq⟩=>r o λe=>by
  subst e;rw[t]at ak;injection ak with ak;subst ak;cases aq
 have z:∀o k,cz (gV L i (.row bK size n u v D)) o=some k->(o=i/\k= .row bK size n u v D)\/(o≠i/\cz L o=some k):=by
  intro o k hk;rw[qk _ _ _ _ X]at hk
  grind
 have Z:∀o l,o≠i->cz L o=some l->l.live=true->bk.heap[β o]?=w.heap[β o]? :=λo l a ak y=>O _ (m.lt o l ak y) (λg e=>T o l a ak y g e);have abM:∀g,A=some g->h g.block=none:=λg e=>by
  have:=m.hole i _ t (by rw[e];rfl)
  grind
 have K:n.isSome=true->h b=none:=λe=>by
  rcases J e with⟨j,d⟩|d
  grind
  rw[d];exact m.cA.hw.out (dz _)
 have C:∀o l,o≠i->cz L o=some l->l.live=true->n.isSome=true->β o≠b:=λo l a ak y e he=>by
  rcases J e with⟨j,d⟩|d
  grind
  have:=m.lt o l ak y;omega
 refine⟨λo=>if o=i then b else β o,Q,⟨⟨λo U aS=>?_,λo k hk=>?_⟩,λo k hk p=>?_,λo E k M hk bP p I he=>?_,λo k hk p=>?_,λo k hk p=>?_,x.os.trans m.os,x.tape.trans m.tape,x.output.trans m.output,og m.size x.size,λo a aA=>?_,m.fresh⟩,λo a=>?_,r⟩;rw[O o (m.cA.hw.lt aJ) (λg e q=>aJ)];exact m.cA.hw o U aS;rcases z o k hk with⟨j,d⟩|⟨a,hk⟩
 grind [LE.fu]
 have F:=m.cA.cA o k hk;cases k with
 |own cs ty=>simp only[LE.fu]at F⊢;rw[r o a,Z o _ a hk rfl,Gk (aW o cs ty hk) Q];exact F
 |b4 dA=>grind [LE.fu]
 |row aG1 aIu dL d7 jn aID=>
  simp only[LE.fu]at F⊢;rw[r o a];obtain⟨⟨h1,ae⟩,S⟩:=F;refine⟨⟨h1,?_⟩,S⟩;rcases ae with ae|⟨g,c,V,B,R,W,Y⟩
  grind
  injection B with B sg sh;have H:=S _ B;subst B;simp only at H;refine .inr ⟨g,c,V,by rw[sh],R,?_,Y⟩;rw[H,Z o _ a hk rfl,<-H];exact W
 |map f bN=>grind [LE.fu]
 |gone=>trivial
 rcases z o k hk with⟨j,d⟩|⟨a,hk⟩;subst d;simp only[aP j];exact K p;simp only[r o a];exact m.hole o k hk p;rcases z o k hk with⟨j,d⟩|⟨j,d⟩<;>rcases z E M bP with⟨s,G⟩|⟨s,G⟩;omega;subst d;simp only[aP j,r E s]at he;exact absurd he.symm (C E M s G I p);subst G;simp only[aP s,r o j]at he;exact absurd he (C o k j d p I);simp only[r o j,r E s]at he;exact m.inj o E k M d G p I he;rcases z o k hk with⟨j,d⟩|⟨a,hk⟩;subst d;simp only[aP j];cases n with
 |none=>cases p
 |some g=>
  rcases lX.2 with⟨q,_⟩|⟨g2,c,V,B,R,W,Y⟩
  grind
  grind
 simp only[r o a];exact Qw (m.lt o k hk p) x.size;rcases z o k hk with⟨j,d⟩|⟨a,hk⟩;subst d;simp only[aP j];rcases J p with⟨d,s⟩|s;rw[s];exact m.cQ i _ t d;rw[s];exact .inr m.size;simp only[r o a];exact m.cQ o k hk p;rw[O o (Qw a m.size) (λg e q=>?_)];exact m.frame o a aA;rcases m.cQ i _ t (by rw[e];rfl)with bL|bL
 grind
 grind
 obtain⟨k,hk,P⟩:=a;by_cases e:o=i;subst e;rw[t]at hk;injection hk with hk;subst hk;cases P;exact⟨k,by rw[qk _ _ _ _ X,aD e];exact hk,P⟩
theorem cX.UZ(m:cX al a' β L h w)(j:dN L) bK size:cX al a' β (L++[.row bK size none 0 0 []]) h w/\dN (L++[.row bK size none 0 0 []]):=by
 have d:∀i l,cz (L++[LE.row bK size none 0 0 []]) i=some l->(cz L i=some l)\/(l= .row bK size none 0 0 []):=by
  intro i l ak;rw[xK]at ak
  grind
 have c:∀i l,cz (L++[LE.row bK size none 0 0 []]) i=some l->l.live=true->cz L i=some l:=λi l ak a=>by
  rcases d i l ak with b|rfl;omega;cases a
 refine⟨⟨⟨m.cA.hw,λi l ak=>?_⟩,λi l ak a=>m.hole i l (c i l ak a) a,λi o l cw ak p a f=>m.inj i o l cw (c i l ak a) (c o cw p f) a f,λi l ak a=>m.lt i l (c i l ak a) a,λi l ak a=>m.cQ i l (c i l ak a) a,m.os,m.tape,m.output,m.size,m.frame,m.fresh⟩,?_⟩;rcases d i l ak with b|rfl;exact m.cA.cA i l b;simp only[LE.fu];exact⟨⟨bd,.inl ⟨rfl,rfl⟩⟩,λg e=>by cases e⟩;intro i cs t n x k;rcases d i _ n with b|b;exact z' (j i cs t b x k) λi=>u7 _
 grind
theorem aCH{ty el:fR}{i:BP}(b:P.underlying t=some (.slice el))(a:P.info? el=some i){k:Nat}(e:w.ownsRow 0 el size v k xs) c:(wH #[t,t] ty #[v,.slice none 0 c]).run P w= .ok v w:=by
 rcases e.2 with⟨rfl,rfl⟩|⟨g,cap,f,rfl,_,_,d,_⟩;simp[wH,gM b,sizeOf,Ba,a,P3,aj1];simp[wH,gM b,sizeOf,Ba,a,P3,aj1,d,ait]
def zV(w:bw)(size:Nat)(B:Option aI)(k:Nat)(aG:List ax):Prop:=aG.length=k*size/\((B=none/\k=0)\/∃b,B=some b/\∀o v,aG[o]?=some v->w.cell? (b.add o)=some v)
theorem ain(s:kq β L h w){k:Nat}(a:Src L h size B k aG):zV w size B k aG:=by
 cases a with
 |nil hm=>
  subst hm;refine⟨bd,?_⟩;cases B with
  |none=>simp
  |some b=>simp
 |hp b aG c ak ay=>exact⟨ak,.inr ⟨b,c,λo v e=>s.hw.cell (ay o v e)⟩⟩
theorem ahE{ty el:fR}{i:BP}(g:P.underlying t=some (.slice el))(f:P.info? el=some i)(j:i.zero=some z)(n:i.size=size)(o:i.bytes=bytes)(p:z.cells.size=size)(m:0<size){k:Nat}(h:w.ownsRow 0 el size v k xs)(d:zV w size B q aG)(h1:∀u∈aG,u.oneCell'=true)(e:k+q<=eD)(l:(k+q)*bytes<=140737488355328):
 ∃a bk,(wH #[t,t] ty #[v,.slice B q c]).run P w= .ok a bk/\bk.ownsRow 0 el size a (k+q) (xs++aG)/\w.grownBy bk v.ownBlock/\
  (a= .slice none 0 0↔v= .slice none 0 0/\q=0)/\(a.ownBlock=v.ownBlock\/a.ownBlock=some w.heap.size):=by
 obtain⟨ak,d⟩:=d
 rcases d with⟨rfl,rfl⟩|⟨b,rfl,ay⟩
 have:aG=[]:=x9 I
 subst this
 exact⟨v,w,aCH g f h c,aJ,aGN w _,bd,.inl rfl⟩
 exact run_append_own_at (P:=P) w 0 t ty el i z size bytes g f j n o p m v k xs h b q c aG ak ay h1 e l (cW _)
theorem ahx{k:Nat}(a:w.ownsRow 0 el size v k xs):∃A cap,v= .slice A k cap:=by
 rcases a.2 with⟨rfl,rfl⟩|⟨g,cap,b,rfl,_⟩;simp;simp
theorem Pc{k:Nat}(a:w.ownsRow 0 el size (.slice A k cap) k xs):(Value.slice A k cap= .slice none 0 0)↔A=none:=by
 constructor
 grind
 intro e;subst e;rcases a.2 with⟨q,_⟩|⟨g,c,b,q,_⟩;omega
 grind
theorem VX{k:Nat}(a:w.ownsRow 0 el size (.slice A k cap) k xs):k<=cap:=by
 rcases a.2 with⟨q,b⟩|⟨g,c,d,q,_,_,h,_⟩;omega
 grind
theorem aA'{k:Nat}{g:aI}(d:w.ownsRow 0 el size (.slice (some g) k cap) k xs):∃a,g=⟨g.block,0,none⟩/\w.heap[g.block]?=some (.cells a el (0,0))/\k<=cap/\cap<=eD/\a.size=cap*size/\xs.length=k*size/\a.toList.take (k*size)=xs:=by
 rcases d.2 with⟨c,_⟩|⟨g1,c1,a,c,_,f,i,j,l,e⟩
 grind
 injection c with b _ h;injection b with b;subst b;subst h;exact⟨a,rfl,f,i,j,l,d.1,e⟩
theorem Wr(al:0<q)(a:zV w size B q aG):aG.length=q*size/\∃b,B=some b/\∀o v,aG[o]?=some v->w.cell? (b.add o)=some v:=by
 obtain⟨ak,c⟩:=a
 grind
theorem cX.QU{ty el:fR}{i:BP}(C:P.underlying t=some (.slice el))(A:P.info? el=some i)(s:i.zero=some z)(W:i.size=size)(M:i.bytes=bytes)(X:z.cells.size=size)(T:0<size){j g:aI}{k:Nat}{a:List ax}(m:cX al a' β L h w)(O:dN L)(V:a.length=k*size)(p:∀o u,a[o]?=some u->w.cell? (g.add o)=some u)(ak:aG.length=q*size)(J:∀o v,aG[o]?=some v->w.cell? (j.add o)=some v)(ay:cap<k+q)(hm:k+q<=eD)(B:(k+q)*bytes<=140737488355328):∃f d cn bk,(wH #[t,t] ty #[.slice (some g) k cap,.slice (some j) q c]).run P w= .ok (.slice (some f) (k+q) d) bk/\k+q<=d/\cX al a' cn (L++[.row el size (some f) (k+q) d (a++aG)]) h bk/\dN (L++[.row el size (some f) (k+q) d (a++aG)])/\(∀o,fo L o->fo (L++[.row el size (some f) (k+q) d (a++aG)]) o)/\(∀o,fo L o->cn o=β o):=by
 obtain⟨N,bk,F,K,Q⟩:=run_append_arg_grows (P:=P) (w:=w) t ty el i z size bytes C A s W M X T g k cap a V p j q c aG ak J I hm B;have b:bk.ownsRow 0 el size N (k+q) (a++aG):=⟨K.1,by
  rcases K.2 with x|⟨g,c,bm,Z,Y,cV⟩;omega
  grind⟩
 have H:=run_append_grow (P:=P) w t ty el i z C A s g k cap a aJ p j q c aG aJ J I (by grind [eD]) (by rw[M];exact growslice_fits I B);rw[F]at H;injection H with R _;subst R;obtain⟨m1,G⟩:=m.UZ O el size;have r:cz (L++[LE.row el size none 0 0 []]) L.length=some (.row el size none 0 0 []):=by rw[xK];simp
 obtain⟨cn,S,D,n,_⟩:=m1.grow G r Q b (.inr rfl);have U:∀y:LE,gV (L++[LE.row el size none 0 0 []]) L.length y=L++[y]:=λy=>by
  rw[HP,uq _ _ (dz _)];simp
 have E:=G.va (ny r) n (λ_ _ e=>by cases e);rw[U]at D n E;exact⟨_,_,cn,bk,F,VX b,D,E,λo l=>n o (u7 _ l),λo l=>S o (u7 _ l)⟩
theorem aaq{ty el:fR}{i:BP}(R:P.underlying t=some (.slice el))(M:P.info? el=some i)(W:i.zero=some z)(J:i.size=size)(uJ:i.bytes=bytes)(uV:z.cells.size=size)(V:0<size){k:Nat}{S:List ax->Prop}{K:aK->List LE->Prop}(m:cX al a' β L h w)(x:dN L)(dr:∀aG,S aG->zV w size B q aG)(hp:x5 el size bytes A k cap q S L K):∃g d f' cn bu bk,(wH #[t,t] ty #[.slice A k cap,.slice B q c]).run P w= .ok (.slice g f' d) bk/\K (.v (.slice g f' d)) bu/\cX al a' cn bu h bk/\dN bu/\(∀o,fo L o->fo bu o)/\(∀o,fo L o->cn o=β o):=by
 cases hp with
 |c3 o xs aG a F h1 hm O Y=>
  have r:=(m.cA.cA o _ a).1;obtain⟨Bb,bk,l,f,E,C,Z⟩:=ahE (ty:=ty) (c:=c) R M W J uJ uV V r (dr aG F) h1 hm O;obtain⟨g,d,rfl⟩:=ahx f;obtain⟨cn,G,j,n,_⟩:=m.grow x a E f Z;refine⟨g,d,_,cn,_,bk,l,Y g d ?_,j,x.va (ny a) n (λ_ _ e=>by cases e),n,G⟩;rw[Pc f,Pc r]at C;exact⟨C,VX f⟩
 |fresh aG aT aA su F h1 hm O Y=>
  subst aT;subst aA;subst su;obtain⟨m1,hG⟩:=m.UZ x el size;have a:cz (L++[LE.row el size none 0 0 []]) L.length=some (.row el size none 0 0 []):=by rw[xK];simp
  have r:=(m1.cA.cA _ _ a).1;obtain⟨Bb,bk,l,f,E,C,Z⟩:=ahE (ty:=ty) (c:=c) R M W J uJ uV V r (dr aG F) h1 I aJ;obtain⟨g,d,rfl⟩:=ahx f;obtain⟨cn,G,j,n,_⟩:=m1.grow hG a E f Z;have oA:gV (L++[LE.row el size none 0 0 []]) L.length (.row el size g (0+q) d ([]++aG))=L++[.row el size g q d aG]:=by
   rw[HP,uq _ _ (dz _)];simp
  rw[oA]at j n;rw[Pc f,Pc r]at C;simp only[true_and]at C;have dO:0+q=q:=Nat.zero_add q;rw[dO]at l;have U:=hG.va (ny a) (by rw[oA];omega) (λ_ _ e=>by cases e);rw[oA]at U;exact⟨g,d,q,cn,_,bk,l,Y g d ⟨C,by have:=VX f;omega⟩,j,U,λo a=>n o (u7 _ a),λo a=>G o (u7 _ a)⟩
 |off o b s N H xs aG aT a T hC F h1 al hm O b2 bN=>
  subst aT;have r:=(m.cA.cA o _ a).1;obtain⟨ak,dA,rfl,pC⟩:=Wr al (dr aG F);obtain⟨y,_,mg,aHf,X,fN,at0,Cz⟩:=aA' r;simp only at mg;by_cases Q:k+q<=cap;have Cl:=aCO (P:=P) w i.size q dA q c aG aJ pC;have D:N+q<=H:=by
   have:(N+q)*size<=H*size:=by
    rw[BD,T,hC Q,Nat.add_assoc,<-BD];exact Nat.add_le_add_left (ur _ Q) _
   exact Nat.le_of_mul_le_mul_right this V
  have SZ:s+k*size+0+aG.length<=y.size:=by
   rw[<-T,ak,fN,zQ,<-BD];exact ur _ D
  have kk:=run_storeCells_at P b (s+k*size) el aG 0 y w mg SZ h1;rw[zQ,<-T,Cz]at kk;have l:(wH #[t,t] ty #[.slice (some ⟨b,s,none⟩) k cap,.slice (some dA) q c]).run P w= .ok (.slice (some ⟨b,s,none⟩) (k+q) cap) (w.setRow b (xs++aG++y.toList.drop (N*size+aG.length)).toArray):=by
   rw[J]at Cl;simp[wH,gM R,sizeOf,Ba,M,J,P3,Q,Cl,ajT,<-T,kk]
  have eH:(xs++aG).length=(N+q)*size:=aJ;have f:(w.setRow b (xs++aG++y.toList.drop (N*size+aG.length)).toArray).ownsRow 0 el size (.slice (some ⟨b,0,none⟩) (N+q) H) (N+q) (xs++aG):=by
   refine⟨eH,.inr ⟨b,H,_,rfl,cW _,setRow_heap w b y _ el _ mg,D,X,?_,?_⟩⟩
   grind
   grind
  have E:w.grownBy (w.setRow b (xs++aG++y.toList.drop (N*size+aG.length)).toArray) (F' (.slice (some ⟨b,0,none⟩) N H)):=⟨rfl,rfl,rfl,bd,λo _ a=>setRow_other w b o _ (λe=>a (by rw[e];rfl))⟩;obtain⟨cn,G,j,n,_⟩:=m.grow x a E f (.inl rfl);exact⟨_,_,_,cn,_,_,l,b2 Q,j,x.va (ny a) n (λ_ _ e=>by cases e),n,G⟩;have rH:(xs.drop s).length=k*size:=by simp_all
  have Cv:∀o u,(xs.drop s)[o]?=some u->w.cell? ((nI b s none).add o)=some u:=λp u hu=>by
   rw[List.getElem?_drop]at hu;have:=Wi m.cA a hu;rw[add_lit]at this⊢
   grind
  obtain⟨cf,d,cn,bk,l,su,j,U,gP,e9⟩:=m.QU (ty:=ty) (c:=c) (cap:=cap) R M W J uJ uV V x rH Cv ak pC I hm O;exact⟨_,_,_,cn,_,bk,l,bN I _ _ su,j,U,gP,e9⟩
theorem ape{ty el:fR}{i:BP}(C:P.underlying t=some (.slice el))(y:P.info? el=some i)(H:i.zero=some z)(p:i.size=size)(uJ:i.bytes=bytes)(uV:z.cells.size=size)(W:0<size){k:Nat}{S:List ax->Prop}{K:aK->List LE->J->Prop}(m:cX al a' β L h w)(s:dN L)(dr:∀aG,S aG->zV w size B q aG)(hp:De el size bytes A k cap q S L h K):∃g d j cn bu aa bk,(wH #[t,t] ty #[.slice A k cap,.slice B q c]).run P w= .ok (.slice g j d) bk/\K (.v (.slice g j d)) bu aa/\cX al a' cn bu aa bk/\dN bu/\(∀o,fo L o->fo bu o)/\(∀o,fo L o->cn o=β o):=by
 have lift:x5 el size bytes A k cap q S L (λx L=>K x L h)->∃g d j cn bu aa bk,(wH #[t,t] ty #[.slice A k cap,.slice B q c]).run P w= .ok (.slice g j d) bk/\K (.v (.slice g j d)) bu aa/\cX al a' cn bu aa bk/\dN bu/\(∀o,fo L o->fo bu o)/\(∀o,fo L o->cn o=β o):=λaw=>by
  obtain⟨g,d,j,cn,bu,bk,E,D,iB⟩:=aaq (ty:=ty) (c:=c) C y H p uJ uV W m s dr aw
  grind
 cases hp with
 |c3 o xs aG M a h1 hm f Q=>exact lift (.c3 o xs aG M a h1 hm f Q)
 |fresh aG aT aA r a h1 hm f Q=>exact lift (.fresh aG aT aA r a h1 hm f Q)
 |off o b nA N jB xs aG aT M dE hC a h1 al hm f R l=>exact lift (.off o b nA N jB xs aG aT M dE hC a h1 al hm f R l)
 |mem b off bm ht aG Y aT f a h1 al Z gB aS hm X R l=>
  subst aT;obtain⟨ak,U,rfl,F⟩:=Wr al (dr aG a);have mg:=m.cA.hw _ _ f;by_cases O:k+q<=cap;have aS:=aS O;have Cl:=aCO (P:=P) w i.size q U q c aG aJ F;have kk:=V8 (P:=P) (b:=b) (ty:=el) aG w bm ht (off+k*size) 0 I h1 I;have b':aG≠[]:=λe=>by
   rw[e]at ak;have:q*size≠0:=Nat.mul_ne_zero I I
   grind
  rw[aD b']at kk;have n:(wH #[t,t] ty #[.slice (some ⟨b,off,none⟩) k cap,.slice (some U) q c]).run P w= .ok (.slice (some ⟨b,off,none⟩) (k+q) cap) (wr w b el ht):=by
   rw[p]at Cl;simp[wH,gM C,sizeOf,Ba,y,p,P3,O,Cl,ajT,kk]
  exact⟨_,_,_,β,L,_,_,n,R O,m.ajI I,s,λ_=>id,λ_ _=>rfl⟩;have G:∀o u,Y[o]?=some u->w.cell? ((nI b off none).add o)=some u:=λo u hu=>by
   rw[add_lit];simp_all[Mf,mg]
  obtain⟨cf,d,cn,bk,n,r,T,V,E,D⟩:=m.QU (ty:=ty) (c:=c) (cap:=cap) C y H p uJ uV W s Z G ak F I hm X;exact⟨_,_,_,cn,_,h,bk,n,l I _ _ r,T,V,E,D⟩
 |rd b off aG Y aT a h1 al Z gB ay hm X l=>
  subst aT;obtain⟨ak,U,rfl,F⟩:=Wr al (dr aG a);have G:∀o u,Y[o]?=some u->w.cell? ((nI b off none).add o)=some u:=λo u hu=>m.cA.hw.cell (gB o u hu);obtain⟨cf,d,cn,bk,n,r,T,V,E,D⟩:=m.QU (ty:=ty) (c:=c) (cap:=cap) C y H p uJ uV W s Z G ak F I hm X;exact⟨_,_,_,cn,_,h,bk,n,l _ _ r,T,V,E,D⟩
end
end Go.Sx
