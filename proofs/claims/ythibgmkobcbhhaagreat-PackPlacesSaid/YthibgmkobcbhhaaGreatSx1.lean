/- The small machine language into which the bodies of functions are lowered, and the lowering. Conditions: none. -/
import Derived.WalkKit
import Derived.Below
import Derived.Deep.Quiet
import Derived.StillTail
namespace Go.Sx
/-- What an operation reads: a slot or a constant. -/
inductive Arg where
  | t (n : Nat)
  | c (v : Value)
  | gl (g : Nat)
  | fn (f : Nat)
  deriving Inhabited

inductive IK where
  | mv (x : Arg)
  | set (x : Arg)
  | pick (c a b : Arg)
  | alloc (ty : Nat) (zero : List Value)
  | box (ty : Nat) (x : Arg)
  | build (zero : List Value) (parts : List (Nat × Nat × Arg))
  | bslice (ty : Nat) (len size : Nat) (zero : List Value) (parts : List (Nat × Arg))
  | load (agg : Bool) (n : Nat) (x : Arg)
  | store (n : Nat) (x y : Arg)
  | nilck (x : Arg)
  | arith (op : BinOp) (x y : Arg)
  | cmp (op : BinOp) (x y : Arg)
  | eqv (neg : Bool) (ek : Nat) (x y : Arg)
  | divm (op : BinOp) (x y : Arg)
  | bitop (op : BinOp) (ty : Nat) (x y : Arg)
  | unop (op : UnOp) (x : Arg)
  | conv (src dst : Nat) (x : Arg)
  | fieldA (off : Nat) (x : Arg)
  | field (agg : Bool) (off n : Nat) (x : Arg)
  | indexA (size : Nat) (x i : Arg)
  | indexP (len size : Nat) (x i : Arg)
  | index (ty : Nat) (x i : Arg)
  | len (ty : Nat) (x : Arg)
  | lenM (x : Arg)
  | extract (x : Arg) (i : Nat)
  | call (f : Nat) (args : List Arg)
  | callv (x : Arg) (args : List Arg)
  | callN (f : Nat) (args : List Arg)
  | callvN (x : Arg) (args : List Arg)
  | callF (f : Nat) (args : List Arg)
  | appendN (ty ety esize ebytes : Nat) (zero : List Value) (x y : Arg)
  | append (ty ety esize ebytes : Nat) (zero : List Value) (x y : Arg)
  | bcall (b : Builtin) (tys : List Nat) (args : List Arg)
  | mkslice (ty ety esize ebytes : Nat) (zero : List Value) (l c : Arg)
  | slice (size : Nat) (x : Arg) (lo hi : Option Arg)
  | minmax (mx : Bool) (x y : Arg)
  | neg (x : Arg)
  | mkmap
  | lookup (kk : Nat) (zero : Value) (x k : Arg) (ok : Bool)
  | mapupd (kk : Nat) (x k v : Arg)
  | mkfunc (f : Nat) (caps : List Arg)
  | range (x : Arg)
  | next (x : Arg)
  | entry (x : Arg)
  | mkiface (ty : Nat) (x : Arg)
  | bad
  deriving Inhabited

structure IOp where
  d : Option Nat
  g : Option (Nat × Bool)
  k : IK
  deriving Inhabited

/-- an operation of a region that draws its order, and the operations that come before it -/
structure OOp where
  o : IOp
  after : List Nat
  m : Bool
  deriving Inhabited

inductive IR where
  | skip
  | reg (ops : List IOp)
  | odd (ops : List OOp)
  | seq (a b : IR)
  | cond (c : Arg) (x y : IR)
  | block (id : Nat) (b : IR)
  | loop (b : IR)
  | exit (id : Nat)
  | scope (b : IR)
  | label
  | ret
  | rfun (f : Arg) (ps : List Nat) (a b : IR)
  | bad
  deriving Inhabited

def lowArg : Operand → Arg
  | .tmp t => .t t
  | .const v => .c v
  | .global g => .gl g
  | .func f => .fn f

section
variable (P : Program)
def tyAgg (t : Nat) : Bool := match P.underlying t with
  | some (.struct _) | some (.array _ _) => true
  | _ => false
def tyInt (t : Nat) : Bool := match P.underlying t with
  | some (.int .i64) => true
  | _ => false
def tyU64 (t : Nat) : Bool := match P.underlying t with
  | some (.int .u64) => true
  | _ => false
def tySize (t : Nat) : Nat := match P.info? t with | some i => i.size | none => 0
def tyBytes (t : Nat) : Nat := match P.info? t with | some i => i.bytes | none => 0
def tyZero (t : Nat) : List Value := match P.info? t with
  | some i => (match i.zero with | some z => z.cells.toList | none => [])
  | none => []
def tyZero1 (t : Nat) : Value := match P.info? t with
  | some i => (match i.zero with | some z => z | none => undef)
  | none => undef
/-- types that are loaded and measured are known -/
def tyOk (t : Nat) : Bool := (P.underlying t).isSome && (P.info? t).isSome
/-- of a slice's element: cells, bytes, zero cells -/
def elemOk (t : Nat) : Option (Nat × Nat × List Value) := match P.info? t with
  | some i => (match i.zero with
    | some z => if Nat.beq z.cells.size i.size && Nat.blt 0 i.size then some (i.size, i.bytes, z.cells.toList) else none
    | none => none)
  | none => none
/-- fields that are plain numbers, one behind the other -/
def intFields : List Field → Nat → Bool
  | [], _ => true
  | f :: r, i => tyInt P f.type && Nat.beq f.offset i && tyOk P f.type && !tyAgg P f.type && decide (f.name ≠ "_") && intFields r (i + 1)
/-- an array's elements that are plain numbers -/
def intElem (e : Nat) : Bool := tyInt P e && tyOk P e && !tyAgg P e && Nat.beq (tySize P e) 1
/-- of the types that can be compared here: 0 bool, 1 pointer, 2 slice, 3 function, 5 + n a struct of n numbers -/
def eqKind (t : Nat) : Option Nat := match P.underlying t with
  | some .bool => some 0
  | some (.pointer _) => some 1
  | some (.slice _) => some 2
  | some (.func _ _ _) => some 3
  | some (.struct fs) => if intFields P fs.toList 0 && !P.stoodInHeld t && !P.eqGuardType P.depth t then some (5 + fs.size) else none
  | some (.array n e) => if intElem P e && !P.eqGuardType P.depth t then some (5 + n) else none
  | _ => none
/-- of the types that may be a map's key here: 0 a number, 5 + n a struct of n numbers -/
def keyKind (t : Nat) : Option Nat := bif tyInt P t then some 0 else match P.underlying t with
  | some (.struct fs) => if intFields P fs.toList 0 && !P.stoodInHeld t && !P.eqGuardType P.depth t then some (5 + fs.size) else none
  | some (.array n e) => if intElem P e && !P.eqGuardType P.depth t then some (5 + n) else none
  | _ => none
def zeroOf (t : Nat) : Option Value := match P.info? t with
  | some i => i.zero
  | none => none
def lowEq (neg : Bool) (t : Nat) (x y : Arg) : IK := match eqKind P t with
  | some k => .eqv neg k x y
  | none => .bad
def fldOf (t i : Nat) : Option Field := match P.underlying t with
  | some (.struct fs) => fs[i]?
  | _ => none

def lowBuild (t : Nat) : List (Nat × Operand) → Option (List (Nat × Nat × Arg))
  | [] => some []
  | (i, x) :: r => match fldOf P t i with
    | some f => (match tyOk P f.type, lowBuild t r with
      | true, some l => some ((f.offset, tySize P f.type, lowArg x) :: l)
      | _, _ => none)
    | none => none
/-- every field of the struct is known -/
def structOk (t : Nat) : Bool := match P.underlying t with
  | some (.struct fs) => fs.toList.all fun f => tyOk P f.type
  | _ => false

/-- the parts of an array -/
def lowBuildA (t : Nat) (ps : List (Nat × Operand)) : Option (List (Nat × Nat × Arg)) := match P.underlying t with
  | some (.array _ e) => if tyOk P e then some (ps.map fun p => (p.1 * tySize P e, tySize P e, lowArg p.2)) else none
  | _ => none

def lowKind (o : Op) : IK :=
  match o with
  | .move x => .mv (lowArg x)
  | .assign x => .set (lowArg x)
  | .pick c a b => .pick (lowArg c) (lowArg a) (lowArg b)
  | .alloc t => (match P.info? t with
    | some i => (match i.zero with | some z => .alloc t z.cells.toList | none => .bad)
    | none => .bad)
  | .box t x => .box t (lowArg x)
  | .build t ps => (match P.info? t with
    | some i => (match i.zero, (if structOk P t then lowBuild P t ps.toList else lowBuildA P t ps.toList) with | some z, some l => .build z.cells.toList l | _, _ => .bad)
    | none => .bad)
  | .buildSlice t n ps => (match P.underlying t with
    | some (.slice e) => (match elemOk P e with | some (s, _, z) => .bslice e n s z (ps.toList.map fun p => (p.1, lowArg p.2)) | none => .bad)
    | _ => .bad)
  | .load t x => if tyOk P t then .load (tyAgg P t) (tySize P t) (lowArg x) else .bad
  | .store t x y => if tyOk P t then .store (tySize P t) (lowArg x) (lowArg y) else .bad
  | .nilCheck x => .nilck (lowArg x)
  | .binOp op t x y _ => (match op with
    | .add | .sub | .mul => if tyInt P t then .arith op (lowArg x) (lowArg y) else .bitop op t (lowArg x) (lowArg y)
    | .quo | .rem => if tyInt P t then .divm op (lowArg x) (lowArg y) else .bitop op t (lowArg x) (lowArg y)
    | .eql => if tyInt P t then .cmp op (lowArg x) (lowArg y) else lowEq P false t (lowArg x) (lowArg y)
    | .neq => if tyInt P t then .cmp op (lowArg x) (lowArg y) else lowEq P true t (lowArg x) (lowArg y)
    | .lss | .leq | .gtr | .geq => if tyInt P t then .cmp op (lowArg x) (lowArg y) else .bitop op t (lowArg x) (lowArg y)
    | .shr => if tyU64 P t then .bitop .shr 0 (lowArg x) (lowArg y) else .bad
    | _ => .bitop op t (lowArg x) (lowArg y))
  | .unOp op t x => (match op with
    | .neg => if tyInt P t then .neg (lowArg x) else .bad
    | _ => .unop op (lowArg x))
  | .convert s d x => if tyInt P s && tyU64 P d then .conv 0 0 (lowArg x) else if tyU64 P s && tyInt P d then .conv 1 0 (lowArg x) else .bad
  | .fieldAddr t x i => (match fldOf P t i with
    | some f => if tyOk P f.type && !Nat.beq (tySize P f.type) 0 then .fieldA f.offset (lowArg x) else .bad
    | none => .bad)
  | .field t x i => (match fldOf P t i with
    | some f => if tyOk P f.type then .field (tyAgg P f.type) f.offset (tySize P f.type) (lowArg x) else .bad
    | none => .bad)
  | .indexAddr t x i => (match P.underlying t with
    | some (.slice e) => if tyOk P e then .indexA (tySize P e) (lowArg x) (lowArg i) else .bad
    | some (.array n e) => if tyOk P e then .indexP n (tySize P e) (lowArg x) (lowArg i) else .bad
    | _ => .bad)
  | .index t x i => .index t (lowArg x) (lowArg i)
  | .lookup t x k ok => (match P.underlying t with
    | some (.map kt e) => (match keyKind P kt, zeroOf P e with
      | some kk, some z => .lookup kk z (lowArg x) (lowArg k) ok
      | _, _ => .bad)
    | _ => .bad)
  | .mapUpdate t x k v => (match P.underlying t with
    | some (.map kt _) => (match keyKind P kt with
      | some kk => .mapupd kk (lowArg x) (lowArg k) (lowArg v)
      | none => .bad)
    | _ => .bad)
  | .makeSlice t l c => (match P.underlying t with
    | some (.slice e) => (match elemOk P e with | some (s, b, z) => .mkslice t e s b z (lowArg l) (lowArg c) | none => .bad)
    | _ => .bad)
  | .slice t x lo hi mx => (match P.underlying t, mx with
    | some (.slice e), none => if tyOk P e then .slice (tySize P e) (lowArg x) (lo.map lowArg) (hi.map lowArg) else .bad
    | _, _ => .bad)
  | .extract x i => .extract (lowArg x) i
  | .makeFunc fn first caps => (match fn with
    | .func f => if first.size = 0 then .mkfunc f (caps.toList.map lowArg) else .bad
    | _ => .bad)
  | .makeMap _ r => (match r with | none => .mkmap | some _ => .bad)
  | .makeInterface t x => .mkiface t (lowArg x)
  | .range t x => (match P.underlying t with
    | some (.map _ _) => .range (lowArg x)
    | _ => .bad)
  | .next x s => if s then .bad else .next (lowArg x)
  | .entry x => .entry (lowArg x)
  | .call c => (match c.callee with
    | .builtin .append => (match c.args.toList, c.argTypes.toList with
      | [x, y], [t, t'] => (match P.underlying t with
        | some (.slice e) => (match elemOk P e with | some (s, b, z) => if t = t' then .append t e s b z (lowArg x) (lowArg y) else .bad | none => .bad)
        | _ => .bad)
      | _, _ => .bad)
    | .builtin .len => (match c.args.toList, c.argTypes.toList with
      | [x], [t] => (match P.underlying t with
        | some (.slice _) => .len t (lowArg x)
        | some (.map _ _) => .lenM (lowArg x)
        | _ => .bad)
      | _, _ => .bad)
    | .builtin .min => (match c.args.toList with
      | [x, y] => .minmax false (lowArg x) (lowArg y)
      | _ => .bad)
    | .builtin .max => (match c.args.toList with
      | [x, y] => .minmax true (lowArg x) (lowArg y)
      | _ => .bad)
    | .builtin b => .bcall b c.argTypes.toList (c.args.toList.map lowArg)
    | .value (.func f) => .call f (c.args.toList.map lowArg)
    | .value x => .callv (lowArg x) (c.args.toList.map lowArg)
    | .invoke _ _ => .bad)
  | _ => .bad

/-- Is it an operation that only reads? -/
def isV : IK → Bool
  | .mv _ | .pick .. | .load .. | .nilck _ | .arith .. | .cmp .. | .unop .. | .fieldA .. | .indexA .. | .indexP .. | .len .. | .extract ..
  | .build .. | .eqv .. | .neg _ | .minmax .. | .divm .. | .slice .. | .field .. | .lookup .. | .lenM _ | .conv .. | .bitop .. => true
  | _ => false
/-- Does it read memory? -/
def isMem : IK → Bool
  | .load .. | .lookup .. | .lenM _ => true
  | _ => false
/-- Does it only make a new block? -/
def isNew : IK → Bool
  | .alloc .. | .box .. | .bslice .. | .mkslice .. | .set _ => true
  | _ => false

def isApp : IK → Bool
  | .append .. => true
  | _ => false
def isCall : IK → Bool
  | .call .. | .callv .. => true
  | _ => false
/-- in a region that draws its order -/
def calm : IK → IK
  | .append t e s b z x y => .appendN t e s b z x y
  | .call f as => .callN f as
  | .callv x as => .callvN x as
  | k => k
def calmOp (o : IOp) : IOp := { d := o.d, g := o.g, k := calm o.k }
/-- A call that may write: what is read beside it sees no heap. -/
def freeK : IK → IK
  | .call f as => .callF f as
  | k => calm k
def freeOp (o : IOp) : IOp := { d := o.d, g := o.g, k := freeK o.k }

def lowGuard (ops : Array Oper) : Option (Nat × Bool) → Option (Option (Nat × Bool))
  | none => some none
  | some (j, b) => match ops[j]? with
    | some o => (match o.dst with | some d => some (some (d, b)) | none => none)
    | none => none

def lowOp (ops : Array Oper) (o : Oper) : IOp :=
  match lowGuard ops o.guard with
  | some g => { d := o.dst, g := g, k := lowKind P o.op }
  | none => { d := o.dst, g := none, k := .bad }

/-- May operations i, x of a region come in whatever order the edges allow? ('b': what comes before what) -/
def pairOk (ops : Array Oper) (b : Array Nat) (i x : Nat) : Bool :=
  match ops[i]?, ops[x]? with
  | some oi, some ox =>
    let ix := (b.getD x 0).testBit i
    let xi := (b.getD i 0).testBit x
    let vi := isV (lowKind P oi.op)
    let vx := isV (lowKind P ox.op)
    (match ox.dst with
     | some d => (!(oi.looksAt ops).contains d || xi || (!vx && ix)) && (oi.dst != some d || (!vx && ix) || (!vi && xi))
     | none => true) &&
    (!isMem (lowKind P oi.op) || vx || isNew (lowKind P ox.op) || isApp (lowKind P ox.op) || isCall (lowKind P ox.op) || ix || xi)
  | _, _ => true
def oddOk (ops : Array Oper) : Bool :=
  let b := Region.before ops
  Region.noSelect ops && (List.range ops.size).all fun i =>
    (match ops[i]? with
     | some o => (o.after.toList.all fun e => !Region.binds .any e || decide (e.on < i)) && (!isV (lowKind P o.op) || (match o.dst with | some d => !(o.looksAt ops).contains d | none => false))
     | none => true) &&
    (List.range ops.size).all fun x => i == x || pairOk P ops b i x

/-- Is there an append that may come before i or behind it? -/
def freeCall (sf : List Nat) (o : Oper) : Bool := match lowKind P o.op with
  | .call f _ => sf.contains f
  | _ => false
def mflag (sf : List Nat) (ops : Array Oper) (b : Array Nat) (i : Nat) : Bool :=
  (List.range ops.size).any fun x => (match ops[x]? with | some ox => isApp (lowKind P ox.op) || freeCall P sf ox | none => false) && !(b.getD x 0).testBit i && !(b.getD i 0).testBit x
/-- A call of one of these functions that no reading operation stands beside: it may do what a call may do. -/
def alone (sf : List Nat) (ops : Array Oper) (b : Array Nat) (i : Nat) (o : Oper) : Bool :=
  (match lowKind P o.op with
   | .call f _ => sf.contains f
   | _ => false) &&
  (List.range ops.size).all fun j => i == j || (match ops[j]? with | some oj => !isMem (lowKind P oj.op) || (b.getD j 0).testBit i || (b.getD i 0).testBit j | none => true)
def oddOp (sf : List Nat) (ops : Array Oper) (b : Array Nat) (i : Nat) (o : Oper) : IOp := match alone P sf ops b i o with
  | true => lowOp P ops o
  | false => match freeCall P sf o with
    | true => freeOp (lowOp P ops o)
    | false => calmOp (lowOp P ops o)
def lowOdd (sf : List Nat) (ops : Array Oper) (b : Array Nat) : List Oper → Nat → List OOp
  | [], _ => []
  | o :: l, i => { o := oddOp P sf ops b i o, after := (o.after.toList.filter (Region.binds .any)).map (·.on), m := mflag P sf ops b i } :: lowOdd sf ops b l (i + 1)

def lower (sf : List Nat) : Code → IR
  | .skip => .skip
  | .region _ ops false => .reg (ops.toList.map (lowOp P ops))
  | .region _ ops true => if oddOk P ops then .odd (lowOdd P sf ops (Region.before ops) ops.toList 0) else .bad
  | .seq a b => .seq (lower sf a) (lower sf b)
  | .cond c a b => .cond (lowArg c) (lower sf a) (lower sf b)
  | .block i b => .block i (lower sf b)
  | .loop b => .loop (lower sf b)
  | .exit i => .exit i
  | .scope b => .scope (lower sf b)
  | .label _ => .label
  | .ret => .ret
  | .rangeFunc f ps a b => .rfun (lowArg f) ps.toList (lower sf a) (lower sf b)
  | _ => .bad
end
end Go.Sx
