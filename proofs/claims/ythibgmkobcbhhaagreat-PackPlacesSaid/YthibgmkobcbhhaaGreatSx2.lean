/- The walk's own rules: symbolic slots, local blocks, partial heaps. Conditions: none. -/
import Derived.Test.YthibgmkobcbhhaaGreatSx1
namespace Go.Sx
abbrev Hp := Nat → Option Obj
def Hp.cell? (h : Hp) (a : Addr) : Option Value := match h a.block with
  | some (.cells c _ _) => if a.spot.isSome then none else c[a.off]?
  | _ => none
def Hp.le (h h' : Hp) : Prop := ∀ j o, h j = some o → h' j = some o
def Hp.put (h : Hp) (b : Nat) (o : Obj) : Hp := fun j => if j = b then some o else h j
def Hp.del (h : Hp) (b : Nat) : Hp := fun j => if j = b then none else h j
def Hp.of (w : World) : Hp := fun j => w.heap[j]?
def HW (h : Hp) (w : World) : Prop := ∀ j o, h j = some o → w.heap[j]? = some o

theorem Hp.le_refl (h : Hp) : h.le h := fun _ _ e => e
theorem Hp.le_trans {a b c : Hp} (x : a.le b) (y : b.le c) : a.le c := fun j o e => y j o (x j o e)
theorem Hp.cell_le {h h' : Hp} (x : h.le h') {a : Addr} {v : Value} (e : h.cell? a = some v) : h'.cell? a = some v := by
  unfold Hp.cell? at *
  cases hb : h a.block with
  | none => rw [hb] at e; cases e
  | some o => rw [hb] at e; rw [x _ _ hb]; exact e
theorem HW.cell {h : Hp} {w : World} (x : HW h w) {a : Addr} {v : Value} (e : h.cell? a = some v) : w.cell? a = some v := by
  unfold Hp.cell? at e
  unfold World.cell?
  cases hb : h a.block with
  | none => rw [hb] at e; cases e
  | some o => rw [hb] at e; rw [x _ _ hb]; exact e
theorem HW.mono {h h' : Hp} {w : World} (x : HW h' w) (y : h.le h') : HW h w := fun j o e => x j o (y j o e)
theorem Hp.le_put {h : Hp} {b : Nat} {o : Obj} (hb : h b = none) : h.le (h.put b o) := fun j o' e => by
  unfold Hp.put
  by_cases hj : j = b
  · subst hj; rw [hb] at e; cases e
  · rw [if_neg hj]; exact e
theorem Hp.put_same (h : Hp) (b : Nat) (o : Obj) : h.put b o b = some o := by simp [Hp.put]
theorem Hp.put_ne (h : Hp) {b j : Nat} (o : Obj) (e : j ≠ b) : h.put b o j = h j := by simp [Hp.put, e]
theorem Hp.del_same (h : Hp) (b : Nat) : h.del b b = none := by simp [Hp.del]
theorem Hp.del_ne (h : Hp) {b j : Nat} (e : j ≠ b) : h.del b j = h j := by simp [Hp.del, e]
theorem Hp.del_le (h : Hp) (b : Nat) : (h.del b).le h := fun j o e => by
  unfold Hp.del at e
  split at e
  · cases e
  · exact e

/-- What became of the memory during a call. -/
structure Ext (h : Hp) (w : World) (h' : Hp) (w' : World) : Prop where
  hw : HW h' w'
  os : w'.os = w.os
  tape : w'.tape = w.tape
  output : w'.output = w.output
  size : w.heap.size ≤ w'.heap.size
  frame : ∀ j, j < w.heap.size → h j = none → w'.heap[j]? = w.heap[j]?
  fresh : ∀ j, h' j ≠ none → h j ≠ none ∨ w.heap.size ≤ j

/-- A function called upon a partial heap: it returns, and leaves a value and a partial heap. -/
structure Fn (P : Program) (f : FuncId) (args : Array Value) (h : Hp) (Q : Value → Hp → Prop) : Prop where
  body : ∃ fn, P.funcs[f]? = some fn ∧ fn.body.isSome = true ∧ (fn.name == "runtime.NumGoroutine") = false
  run : ∀ w, HW h w → Calls P f args w fun e w' => ∃ v h', e = .returned v ∧ Q v h' ∧ Ext h w h' w'

theorem Fn.mono {P : Program} {f : FuncId} {args : Array Value} {h : Hp} {Q Q' : Value → Hp → Prop} (x : Fn P f args h Q) (y : ∀ v h', Q v h' → Q' v h') : Fn P f args h Q' :=
  ⟨x.body, fun w hw => (x.run w hw).mono fun _ _ ⟨v, h', a, b, c⟩ => ⟨v, h', a, y _ _ b, c⟩⟩

/-! ### symbolic values -/
inductive SV where
  | v (x : Value)
  | p (i off : Nat)
  | s (i off len cap : Nat)
  | m (i : Nat)
  | a (xs : List SV)
  deriving Inhabited

abbrev Env := Nat → SV
def SV.c1 (β : Nat → Nat) : SV → Value
  | .v x => x
  | .p i off => .pointer (some ⟨β i, off, none⟩)
  | .s i off len cap => .slice (some ⟨β i, off, none⟩) len cap
  | .m i => .map (some (β i))
  | .a _ => undef
def SV.c (β : Nat → Nat) : SV → Value
  | .a xs => .agg (xs.map (SV.c1 β)).toArray
  | sv => sv.c1 β

inductive LE where
  | own (cells : List SV) (ty : Nat)
  | pub (b : Nat)
  | row (ety size : Nat) (A : Option Addr) (n cap : Nat) (xs : List Value)
  | map (f : List Int → Option Value) (n : Nat)
  | gone
  deriving Inhabited

def nth {α : Type} : List α → Nat → Option α
  | [], _ => none
  | x :: _, 0 => some x
  | _ :: l, n + 1 => nth l n
def setn {α : Type} : List α → Nat → α → List α
  | [], _, _ => []
  | _ :: l, 0, y => y :: l
  | x :: l, n + 1, y => x :: setn l n y
/-- n elements from off on. -/
def takeN {α : Type} : Nat → List α → Option (List α)
  | 0, _ => some []
  | _ + 1, [] => none
  | n + 1, x :: l => match takeN n l with | some r => some (x :: r) | none => none
def sub {α : Type} (l : List α) : Nat → Nat → Option (List α)
  | 0, n => takeN n l
  | off + 1, n => match l with | [] => none | _ :: l => sub l off n
/-- the elements from off on written over -/
def over {α : Type} : List α → Nat → List α → Option (List α)
  | l, 0, [] => some l
  | [], 0, _ :: _ => none
  | _ :: l, 0, y :: ys => match over l 0 ys with | some r => some (y :: r) | none => none
  | [], _ + 1, _ => none
  | x :: l, off + 1, ys => match over l off ys with | some r => some (x :: r) | none => none

theorem nth_eq {α : Type} (l : List α) : ∀ n, nth l n = l[n]? := by
  induction l with
  | nil => intro n; simp [nth]
  | cons x l ih => intro n; cases n <;> simp [nth, ih]
theorem setn_eq {α : Type} (l : List α) (y : α) : ∀ n, setn l n y = l.set n y := by
  induction l with
  | nil => intro n; simp [setn]
  | cons x l ih => intro n; cases n <;> simp [setn, ih]
theorem takeN_eq {α : Type} : ∀ (n : Nat) (l r : List α), takeN n l = some r → r = l.take n ∧ r.length = n
  | 0, l, r, h => by simp [takeN] at h; subst h; simp
  | n + 1, [], r, h => by simp [takeN] at h
  | n + 1, x :: l, r, h => by
    simp only [takeN] at h
    split at h
    · rename_i r' hr
      injection h with h; subst h
      obtain ⟨a, b⟩ := takeN_eq n l r' hr
      simp [← a, b]
    · cases h
theorem sub_eq {α : Type} : ∀ (off n : Nat) (l r : List α), sub l off n = some r → r = (l.drop off).take n ∧ r.length = n
  | 0, n, l, r, h => by simpa [sub] using takeN_eq n l r (by simpa [sub] using h)
  | off + 1, n, [], r, h => by simp [sub] at h
  | off + 1, n, x :: l, r, h => by simpa using sub_eq off n l r (by simpa [sub] using h)
theorem over_len {α : Type} : ∀ (off : Nat) (l ys r : List α), over l off ys = some r → r.length = l.length ∧ off + ys.length ≤ l.length ∧
    (∀ j, r[j]? = if off ≤ j ∧ j < off + ys.length then ys[j - off]? else l[j]?)
  | 0, l, [], r, h => by
    simp [over] at h; subst h
    refine ⟨rfl, by simp, fun j => ?_⟩
    rw [if_neg (by simp)]
  | 0, [], y :: ys, r, h => by simp [over] at h
  | 0, x :: l, y :: ys, r, h => by
    simp only [over] at h
    split at h
    · rename_i r' hr
      injection h with h; subst h
      obtain ⟨a, b, c⟩ := over_len 0 l ys r' hr
      refine ⟨by simp [a], by simp at b ⊢; omega, fun j => ?_⟩
      cases j with
      | zero => simp
      | succ j =>
        have := c j
        simp only [Nat.zero_le, true_and, Nat.zero_add, Nat.sub_zero] at this
        simp only [List.getElem?_cons_succ, this, Nat.zero_le, true_and, List.length_cons, Nat.zero_add, Nat.sub_zero]
        by_cases hj : j < ys.length
        · rw [if_pos hj, if_pos (by omega)]
        · rw [if_neg hj, if_neg (by omega)]
    · cases h
  | off + 1, [], ys, r, h => by simp [over] at h
  | off + 1, x :: l, ys, r, h => by
    simp only [over] at h
    split at h
    · rename_i r' hr
      injection h with h; subst h
      obtain ⟨a, b, c⟩ := over_len off l ys r' hr
      refine ⟨by simp [a], by simp; omega, fun j => ?_⟩
      cases j with
      | zero => rw [if_neg (by omega)]; simp
      | succ j =>
        have := c j
        simp only [List.getElem?_cons_succ, this]
        by_cases hj : off ≤ j ∧ j < off + ys.length
        · rw [if_pos hj, if_pos (by omega)]; congr 1; omega
        · rw [if_neg hj, if_neg (by omega)]
    · cases h

def upd (e : Env) (d : Nat) (x : SV) : Env := fun i => bif Nat.beq i d then x else e i
def updL (e : Env) : List Nat → List SV → Env
  | d :: ds, x :: xs => updL (upd e d x) ds xs
  | _, _ => e

/-- a value that lies in one cell -/
def one : SV → Bool
  | .v (.agg _) | .v (.tuple _) | .a _ => false
  | _ => true
def ones : List SV → Bool
  | [] => true
  | x :: l => one x && ones l
def cellsOf : SV → Option (List SV)
  | .a xs => some xs
  | .v (.agg cs) => some (cs.toList.map .v)
  | .v (.tuple _) => none
  | x => some [x]

/-- the raw value, if it names no local block -/
def raw1 (L : List LE) : SV → Option Value
  | .v x => some x
  | .p i off => match nth L i with | some (.pub b) => some (.pointer (some ⟨b, off, none⟩)) | _ => none
  | .s i off len cap => match nth L i with | some (.pub b) => some (.slice (some ⟨b, off, none⟩) len cap) | _ => none
  | .m i => match nth L i with | some (.pub b) => some (.map (some b)) | _ => none
  | .a _ => none
def raws (L : List LE) : List SV → Option (List Value)
  | [] => some []
  | x :: l => match raw1 L x, raws L l with | some v, some r => some (v :: r) | _, _ => none
def raw (L : List LE) : SV → Option Value
  | .a xs => match raws L xs with | some r => some (.agg r.toArray) | none => none
  | x => raw1 L x
def rawArgs (L : List LE) : List SV → Option (List Value)
  | [] => some []
  | x :: l => match raw L x, rawArgs L l with | some v, some r => some (v :: r) | _, _ => none
/-- the first local block that a value names -/
def need1 (L : List LE) : SV → Option Nat
  | .p i _ | .s i _ _ _ => match nth L i with | some (.own _ _) => some i | _ => none
  | .m i => match nth L i with | some (.map _ _) => some i | _ => none
  | _ => none
def needs (L : List LE) : List SV → Option Nat
  | [] => none
  | x :: l => match need1 L x with | some i => some i | none => needs L l
def need (L : List LE) : SV → Option Nat
  | .a xs => needs L xs
  | x => need1 L x
def needArgs (L : List LE) : List SV → Option Nat
  | [] => none
  | x :: l => match need L x with | some i => some i | none => needArgs L l

/-! ### requests -/
def br (b : Bool) (x y : Prop) : Prop := match b with | true => x | false => y
theorem br_intro {b : Bool} {x y : Prop} (t : b = true → x) (f : b = false → y) : br b x y := by
  cases b
  · exact f rfl
  · exact t rfl
theorem br_dec {c : Prop} [Decidable c] {x y : Prop} (t : c → x) (f : ¬ c → y) : br (decide c) x y :=
  br_intro (fun h => t (of_decide_eq_true h)) (fun h => f (of_decide_eq_false h))

inductive EvLoad (L : List LE) (h : Hp) (a : Addr) (V : SV → Prop) : Prop
  | hp (v : Value) (hc : h.cell? a = some v) (k : V (.v v))
  | row (i ety size : Nat) (g : Addr) (n cap : Nat) (xs : List Value) (j : Nat) (v : Value) (hi : nth L i = some (.row ety size (some g) n cap xs)) (ha : a = g.add j) (hv : xs[j]? = some v) (k : V (.v v))
inductive EvLoadN (L : List LE) (h : Hp) (a : Addr) (n : Nat) (V : SV → Prop) : Prop
  | hp (vs : List Value) (hl : vs.length = n) (hc : ∀ j v, vs[j]? = some v → h.cell? (a.add j) = some v) (k : V (.a (vs.map .v)))
  | row (i ety size : Nat) (g : Addr) (m cap : Nat) (xs : List Value) (j : Nat) (vs : List Value) (hi : nth L i = some (.row ety size (some g) m cap xs)) (ha : a = g.add j) (hl : vs.length = n)
      (hv : ∀ k v, vs[k]? = some v → xs[j + k]? = some v) (k : V (.a (vs.map .v)))
inductive EvIndex (A : Option Addr) (n : Nat) (z : Int) (V : Addr → Prop) : Prop
  | mk (a : Addr) (ha : A = some a) (h0 : 0 ≤ z) (h1 : z < n) (k : V a)
inductive EvBnd (n : Nat) (z : Int) (V : Prop) : Prop
  | mk (h0 : 0 ≤ z) (h1 : z < n) (k : V)
inductive EvPlace (n : Nat) (z : Int) (V : Nat → Prop) : Prop
  | mk (h0 : 0 ≤ z) (h1 : z < n) (k : V z.toNat)
/-- a place in an array -/
def evPlace (n : Nat) (z : Int) (V : Nat → Prop) : Prop := match z with
  | .ofNat k => bif Nat.blt k n then V k else False
  | .negSucc _ => False
theorem evPlace_out {n : Nat} {z : Int} {V : Nat → Prop} (h : evPlace n z V) : 0 ≤ z ∧ z < n ∧ V z.toNat := by
  unfold evPlace at h
  split at h
  · rename_i k
    cases hb : Nat.blt k n with
    | false => rw [hb] at h; exact h.elim
    | true =>
      rw [hb] at h
      have := Nat.le_of_ble_eq_true hb
      exact ⟨by simp, by simp; omega, h⟩
  · exact h.elim
inductive EvInt (z : Int) (V : Int → Prop) : Prop
  | ok (h0 : -9223372036854775808 ≤ z) (h1 : z ≤ 9223372036854775807) (k : V z)
  | wrap (k : V (IntKind.i64.wrap z))
/-- a number that any of the kinds holds -/
inductive EvSmall (z : Int) (V : Prop) : Prop
  | mk (h0 : 0 ≤ z) (h1 : z ≤ 9223372036854775807) (k : V)
inductive EvDiv (y : Int) (V : Prop) : Prop
  | mk (h : y ≠ 0) (k : V)

def intOp : BinOp → Int → Int → Int
  | .add, x, y => x + y
  | .sub, x, y => x - y
  | _, x, y => x * y
def cmpOp : BinOp → Int → Int → Bool
  | .eql, x, y => decide (x = y)
  | .neq, x, y => decide (x ≠ y)
  | .lss, x, y => decide (x < y)
  | .leq, x, y => decide (x ≤ y)
  | .gtr, x, y => decide (y < x)
  | _, x, y => decide (y ≤ x)

def Arg.get (e : Env) : Arg → SV
  | .t n => e n
  | .c v => .v v
  | .gl g => .v (.pointer (some ⟨g, 0, none⟩))
  | .fn f => .v (.func (.func f) #[] #[])

def force (x : SV) (V : SV → Prop) : Prop := match x with
  | .v y => V (.v y)
  | .p i off => V (.p i off)
  | .s i off len cap => V (.s i off len cap)
  | .m i => V (.m i)
  | .a xs => V (.a xs)
theorem force_eq (x : SV) (V : SV → Prop) : force x V = V x := by cases x <;> rfl
def flip (neg b : Bool) : Bool := match neg with | true => !b | false => b
def fillS : List SV → List (Nat × Nat × SV) → Option (List SV)
  | cs, [] => some cs
  | cs, (off, size, x) :: r => match cellsOf x with
    | some ys => bif Nat.beq ys.length size then (match over cs off ys with | some cs' => fillS cs' r | none => none) else none
    | none => none
def aggOf : SV → Option (List SV)
  | .a xs => some xs
  | .v (.agg cs) => some (cs.toList.map .v)
  | _ => none
def optArg (e : Env) : Option Arg → Option SV
  | none => none
  | some x => some (x.get e)
inductive EvSlice (A : Option Addr) (n cap : Nat) (size : Nat) (lo hi : Int) (V : SV → Prop) : Prop
  | mk (l k : Nat) (hl : lo = l) (hk : hi = k) (h0 : l ≤ k) (h1 : k ≤ cap) (kk : ∀ B, (l < cap → B = A.map (·.add (l * size))) → (l = cap → B = A) → V (.v (.slice B (k - l) (cap - l))))

/-- equality of cells that are numbers, decided one by one -/
def eqCells : List SV → List SV → Option Bool
  | [], [] => some true
  | .v (.int .i64 a) :: l, .v (.int .i64 b) :: r => match eqCells l r with | some t => some (decide (a = b) && t) | none => none
  | _, _ => none

/-- an entry of a map: the key's numbers, the value, when it was made -/
structure Ent where
  k : List Int
  v : Value
  born : Nat
def keyVal (kk : Nat) (k : List Int) : Value := match kk with
  | 0 => (match k with | [a] => .int .i64 a | _ => undef)
  | _ => .agg (k.map (Value.int .i64)).toArray
def entOf (kk : Nat) (x : Ent) : MapEntry := { key := keyVal kk x.k, val := x.v, born := x.born }
def mapObj (kk : Nat) (l : List Ent) (clk : Nat) : Obj := .map (l.map (entOf kk)).toArray clk
def keyLen : Nat → Nat
  | 0 => 1
  | n => n - 5
def assoc : List Ent → List Int → Option Value
  | [], _ => none
  | x :: l, k => if k = x.k then some x.v else assoc l k
def upsert : List Ent → List Int → Value → Nat → List Ent
  | [], k, v, c => [⟨k, v, c⟩]
  | x :: l, k, v, c => if k = x.k then ⟨x.k, v, x.born⟩ :: l else x :: upsert l k v c
/-- a map in the partial heap -/
structure MapAt (h : Hp) (b kk : Nat) (l : List Ent) (clk : Nat) : Prop where
  at_ : h b = some (mapObj kk l clk)
  keys : ∀ x ∈ l, x.k.length = keyLen kk
def ints : List SV → Option (List Int)
  | [] => some []
  | .v (.int .i64 a) :: l => match ints l with | some r => some (a :: r) | none => none
  | _ => none
def keyNums (kk : Nat) (x : SV) : Option (List Int) := match kk with
  | 0 => (match x with | .v (.int .i64 a) => some [a] | _ => none)
  | kk => (match aggOf x with
    | some xs => (match ints xs with | some ks => bif Nat.beq (ks.length + 5) kk then some ks else none | none => none)
    | none => none)
inductive EvGet (h : Hp) (b kk : Nat) (ks : List Int) (V : Option Value → Prop) : Prop
  | mk (l : List Ent) (clk : Nat) (hm : MapAt h b kk l clk) (k : V (assoc l ks))
inductive EvLenM (h : Hp) (b : Nat) (V : Int → Prop) : Prop
  | mk (kk : Nat) (l : List Ent) (clk : Nat) (hm : MapAt h b kk l clk) (k : V l.length)

/-- An operation that only reads. -/
def wpV (k : IK) (e : Env) (L : List LE) (h : Hp) (V : SV → Prop) : Prop :=
  match k with
  | .mv x => force (x.get e) V
  | .pick c a b => (match c.get e with
    | .v (.bool t) => br t (force (a.get e) V) (force (b.get e) V)
    | _ => False)
  | .load true n x => (match x.get e with
    | .p i off => (match nth L i with
      | some (.own cs _) => (match sub cs off n with | some r => V (.a r) | none => False)
      | some (.pub b) => EvLoadN L h ⟨b, off, none⟩ n V
      | _ => False)
    | .v (.pointer (some a)) => EvLoadN L h a n V
    | _ => False)
  | .load false _ x => (match x.get e with
    | .p i off => (match nth L i with
      | some (.own cs _) => (match nth cs off with | some (.a _) => False | some r => V r | none => False)
      | some (.pub b) => EvLoad L h ⟨b, off, none⟩ V
      | _ => False)
    | .v (.pointer (some a)) => EvLoad L h a V
    | _ => False)
  | .nilck x => (match x.get e with
    | .p i off => V (.p i off)
    | .v (.pointer (some a)) => V (.v (.pointer (some a)))
    | _ => False)
  | .arith op x y => (match x.get e, y.get e with
    | .v (.int .i64 a), .v (.int .i64 b) => (match op with
      | .add => EvInt (a + b) fun z => V (.v (.int .i64 z))
      | .sub => EvInt (a - b) fun z => V (.v (.int .i64 z))
      | .mul => EvInt (a * b) fun z => V (.v (.int .i64 z))
      | _ => False)
    | _, _ => False)
  | .cmp op x y => (match x.get e, y.get e with
    | .v (.int .i64 a), .v (.int .i64 b) => (match op with
      | .eql => V (.v (.bool (decide (a = b))))
      | .neq => V (.v (.bool (decide (a ≠ b))))
      | .lss => V (.v (.bool (decide (a < b))))
      | .leq => V (.v (.bool (decide (a ≤ b))))
      | .gtr => V (.v (.bool (decide (b < a))))
      | .geq => V (.v (.bool (decide (b ≤ a))))
      | _ => False)
    | _, _ => False)
  | .unop .not x => (match x.get e with
    | .v (.bool b) => V (.v (.bool (!b)))
    | _ => False)
  | .fieldA off x => (match x.get e with
    | .p i o => V (.p i (o + off))
    | .v (.pointer (some a)) => V (.v (.pointer (some (a.add off))))
    | _ => False)
  | .indexA size x i => (match x.get e, i.get e with
    | .v (.slice A n _), .v (.int .i64 z) => EvIndex A n z fun a => V (.v (.pointer (some (a.add (z.toNat * size)))))
    | .s l off n _, .v (.int .i64 z) => EvBnd n z (V (.p l (off + z.toNat * size)))
    | _, _ => False)
  | .indexP len size x i => (match x.get e, i with
    | .v (.pointer (some a)), .c (.int .i64 z) => evPlace len z fun k => V (.v (.pointer (some (a.add (k * size)))))
    | .p l off, .c (.int .i64 z) => evPlace len z fun k => V (.p l (off + k * size))
    | .v (.pointer (some a)), .t _ => (match i.get e with
      | .v (.int .i64 z) => EvPlace len z fun k => V (.v (.pointer (some (a.add (k * size)))))
      | _ => False)
    | _, _ => False)
  | .len _ x => (match x.get e with
    | .v (.slice _ n _) => V (.v (.int .i64 n))
    | .s _ _ n _ => V (.v (.int .i64 n))
    | _ => False)
  | .extract x i => (match x.get e with
    | .v (.tuple vs) => (match nth vs.toList i with | some v => V (.v v) | none => False)
    | _ => False)
  | .build zero parts => (match fillS (zero.map .v) (parts.map fun p => (p.1, p.2.1, p.2.2.get e)) with
    | some cs => V (.a cs)
    | none => False)
  | .eqv neg 0 x y => (match x.get e, y.get e with
    | .v (.bool a), .v (.bool b) => V (.v (.bool (flip neg (a == b))))
    | _, _ => False)
  | .eqv neg 1 x y => (match x.get e, y.get e with
    | .v (.pointer A), .v (.pointer none) => V (.v (.bool (flip neg A.isNone)))
    | .p _ _, .v (.pointer none) => V (.v (.bool neg))
    | _, _ => False)
  | .eqv neg 2 x y => (match x.get e, y.get e with
    | .v (.slice A _ _), .v (.slice none _ _) => V (.v (.bool (flip neg A.isNone)))
    | .s _ _ _ _, .v (.slice none _ _) => V (.v (.bool neg))
    | _, _ => False)
  | .eqv neg 3 x y => (match x.get e, y.get e with
    | .v .nilFunc, .v .nilFunc => V (.v (.bool (flip neg true)))
    | .v (.func _ _ _), .v .nilFunc => V (.v (.bool neg))
    | _, _ => False)
  | .eqv neg (n + 5) x y => (match aggOf (x.get e), aggOf (y.get e) with
    | some xs, some ys => bif Nat.beq xs.length n && Nat.beq ys.length n then (match eqCells xs ys with | some b => V (.v (.bool (flip neg b))) | none => False) else False
    | _, _ => False)
  | .neg x => (match x.get e with
    | .v (.int .i64 a) => EvInt (0 - a) fun z => V (.v (.int .i64 z))
    | _ => False)
  | .minmax mx x y => (match x.get e, y.get e with
    | .v (.int .i64 a), .v (.int .i64 b) => (match mx with
      | true => V (.v (.int .i64 (max a b)))
      | false => V (.v (.int .i64 (min a b))))
    | _, _ => False)
  | .divm op x y => (match x.get e, y.get e with
    | .v (.int .i64 a), .v (.int .i64 b) => (match op with
      | .quo => EvDiv b (EvInt (a.tdiv b) fun z => V (.v (.int .i64 z)))
      | .rem => EvDiv b (V (.v (.int .i64 (a.tmod b))))
      | _ => False)
    | _, _ => False)
  | .slice size x lo hi => (match x.get e, optArg e lo, optArg e hi with
    | .v (.slice A n cap), none, none => EvSlice A n cap size 0 n V
    | .v (.slice A n cap), some (.v (.int .i64 l)), none => EvSlice A n cap size l n V
    | .v (.slice A n cap), none, some (.v (.int .i64 k)) => EvSlice A n cap size 0 k V
    | .v (.slice A n cap), some (.v (.int .i64 l)), some (.v (.int .i64 k)) => EvSlice A n cap size l k V
    | _, _, _ => False)
  | .field agg off n x => (match aggOf (x.get e) with
    | some cs => (match agg with
      | true => (match sub cs off n with | some r => V (.a r) | none => False)
      | false => (match nth cs off with | some (.a _) => False | some r => V r | none => False))
    | none => False)
  | .lookup kk zero x k ok => (match x.get e, keyNums kk (k.get e) with
    | .v (.map (some b)), some ks => EvGet h b kk ks fun r => (match ok with
      | true => V (.v (.tuple #[r.getD zero, .bool r.isSome]))
      | false => V (.v (r.getD zero)))
    | _, _ => False)
  | .lenM x => (match x.get e with
    | .v (.map (some b)) => EvLenM h b fun z => V (.v (.int .i64 z))
    | _ => False)
  | .conv 0 0 x => (match x.get e with
    | .v (.int .i64 z) => EvSmall z (V (.v (.int .u64 z)))
    | _ => False)
  | .conv 1 0 x => (match x.get e with
    | .v (.int .u64 z) => EvSmall z (V (.v (.int .i64 z)))
    | _ => False)
  | .bitop .shr 0 x y => (match x.get e, y.get e with
    | .v (.int .u64 z), .v (.int .u64 1) => V (.v (.int .u64 (z.fdiv 2)))
    | _, _ => False)
  | _ => False

theorem assoc_upsert (k k' : List Int) (v : Value) (c : Nat) : ∀ l, assoc (upsert l k v c) k' = if k' = k then some v else assoc l k'
  | [] => by simp only [upsert, assoc]
  | x :: l => by
    simp only [upsert]
    split
    · rename_i hk
      simp only [assoc, ← hk]
      split <;> rfl
    · rename_i hk
      simp only [assoc, assoc_upsert k k' v c l]
      by_cases h1 : k' = x.k
      · rw [if_pos h1, if_pos h1, if_neg (fun h2 => hk (h2.symm.trans h1))]
      · rw [if_neg h1, if_neg h1]
theorem len_upsert (k : List Int) (v : Value) (c : Nat) : ∀ l, (upsert l k v c).length = if (assoc l k).isSome then l.length else l.length + 1
  | [] => by simp [upsert, assoc]
  | x :: l => by
    simp only [upsert, assoc]
    split
    · simp
    · simp only [List.length_cons, len_upsert k v c l]
      split <;> rfl
end Go.Sx
