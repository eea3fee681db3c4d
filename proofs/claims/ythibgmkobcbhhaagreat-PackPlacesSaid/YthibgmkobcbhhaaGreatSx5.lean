/- The rules of the operations that make or change memory. Conditions: none. -/
import Derived.Test.YthibgmkobcbhhaaGreatSx4
import Derived.Laws.OwnMore
import Derived.Maps.RangeRun
namespace Go.Sx
open Go.RowKit
abbrev KT := Env → List LE → Hp → Prop
def putS (n : Nat) (d : Option Nat) (x : SV) (e : Env) (L : List LE) (h : Hp) (K : KT) : Prop :=
  match d with
  | some d => bif Nat.blt d n then K (upd e d x) L h else False
  | none => K e L h

/-- A number made plain. -/
def forceN : Nat → (Nat → Prop) → Prop
  | 0, K => K 0
  | n + 1, K => forceN n fun m => K (m + 1)
theorem forceN_eq : ∀ (n : Nat) (K : Nat → Prop), forceN n K = K n
  | 0, _ => rfl
  | n + 1, K => forceN_eq n fun m => K (m + 1)
/-- A list of blocks made plain. -/
def forceL : List LE → (List LE → Prop) → Prop
  | [], K => K []
  | l :: r, K => forceL r fun r => K (l :: r)
theorem forceL_eq : ∀ (L : List LE) (K : List LE → Prop), forceL L K = K L
  | [], _ => rfl
  | l :: r, K => forceL_eq r fun r => K (l :: r)
inductive EvPub (h : Hp) (K : Nat → Prop) : Prop
  | mk (k : ∀ b, h b = none → K b)
/-- The block to begin with: what it names is public already. -/
def deepest : Nat → List LE → Nat → Option Nat
  | 0, _, _ => none
  | fu + 1, L, i => match nth L i with
    | some (.own cs _) => (match raws L cs with
      | some _ => some i
      | none => (match needs L cs with
        | some j => deepest fu L j
        | none => none))
    | _ => none
/-- Local blocks that are named become public. -/
def pubs : Nat → List SV → (List LE → Hp → Prop) → List LE → Hp → Prop
  | 0, _, _, _, _ => False
  | fu + 1, xs, K, L, h => match needArgs L xs with
    | none => K L h
    | some i => match deepest 40 L i with
      | none => False
      | some i => match nth L i with
        | some (.own cs ty) => (match raws L cs with
          | some vs => EvPub h fun b => forceL (setn L i (.pub b)) fun L => pubs fu xs K L (h.put b (.cells vs.toArray ty (0, 0)))
          | none => False)
        | _ => False

/-- A slice in the partial heap: a row at the head of its block. -/
def RowAt (h : Hp) (ety size : Nat) (A : Option Addr) (n cap : Nat) (xs : List Value) : Prop :=
  xs.length = n * size ∧ ((A = none ∧ n = 0 ∧ cap = 0) ∨ ∃ g cur, A = some ⟨g, 0, none⟩ ∧ h g = some (.cells cur ety (0, 0)) ∧ n ≤ cap ∧ cap ≤ maxLen ∧ cur.size = cap * size ∧ cur.toList.take (n * size) = xs)
def delA (h : Hp) : Option Addr → Hp
  | some g => h.del g.block
  | none => h

/-- Rows of the walk's own become public, or public ones the walk's own. -/
inductive Shift (K : List LE → Hp → Prop) : List LE → Hp → Prop
  | done {L : List LE} {h : Hp} (k : K L h) : Shift K L h
  | pub {L : List LE} {h : Hp} (i ety size : Nat) (A : Option Addr) (n cap : Nat) (xs : List Value) (hi : nth L i = some (.row ety size A n cap xs))
      (k : ∀ h', h.le h' → RowAt h' ety size A n cap xs → (∀ g, A = some g → h g.block = none) → Shift K (setn L i .gone) h') : Shift K L h
  | abs {L : List LE} {h : Hp} (ety size : Nat) (A : Option Addr) (n cap : Nat) (xs : List Value) (hr : RowAt h ety size A n cap xs)
      (k : Shift K (L ++ [.row ety size A n cap xs]) (delA h A)) : Shift K L h

inductive EvFn (P : Program) (f : FuncId) (args : Array Value) (L : List LE) (h : Hp) (K : Value → List LE → Hp → Prop) : Prop
  | mk (Q : Value → Hp → Prop) (hc : Fn P f args h Q) (k : ∀ v h', Q v h' → K v L h')
  | mkS (Q : Value → Hp → Prop) (hc : Fn P f args h Q) (k : ∀ v h', Q v h' → Shift (K v) L h')

inductive EvFnM (P : Program) (f : FuncId) (args : Array Value) (K : Value → List LE → Hp → Prop) : List LE → Hp → Prop
  | mk {L : List LE} {h : Hp} (Q : Value → Hp → Prop) (hc : Fn P f args h Q) (hle : ∀ v h', Q v h' → h.le h') (k : ∀ v h', Q v h' → K v L h') : EvFnM P f args K L h
  | pub {L : List LE} {h : Hp} (i ety size : Nat) (A : Option Addr) (n cap : Nat) (xs : List Value) (hi : nth L i = some (.row ety size A n cap xs))
      (k : ∀ h', h.le h' → RowAt h' ety size A n cap xs → (∀ g, A = some g → h g.block = none) → EvFnM P f args K (setn L i .gone) h') : EvFnM P f args K L h

inductive EvFnF (P : Program) (f : FuncId) (args : Array Value) (h : Hp) (K : Value → Hp → Prop) : Prop
  | mk (Q : Value → Hp → Prop) (hc : Fn P f args h Q) (k : ∀ v h', Q v h' → K v h')

inductive EvStore (L : List LE) (h : Hp) (a : Addr) (vs : List Value) (K : List LE → Hp → Prop) : Prop
  | hp (b off ty : Nat) (cs cs' : List Value) (ha : a = ⟨b, off, none⟩) (hb : h b = some (.cells cs.toArray ty (0, 0))) (ho : over cs off vs = some cs') (k : K L (h.put b (.cells cs'.toArray ty (0, 0))))
  | row (i ety size : Nat) (g : Addr) (n cap : Nat) (xs xs' : List Value) (j : Nat) (hi : nth L i = some (.row ety size (some g) n cap xs)) (ha : a = g.add j) (ho : over xs j vs = some xs')
      (k : K (setn L i (.row ety size (some g) n cap xs')) h)

/-- What an appended slice holds. -/
inductive Src (L : List LE) (h : Hp) (size : Nat) (B : Option Addr) (m : Nat) : List Value → Prop
  | nil (hm : m = 0) : Src L h size B m []
  | hp (b : Addr) (vs : List Value) (hB : B = some b) (hl : vs.length = m * size) (hc : ∀ j v, vs[j]? = some v → h.cell? (b.add j) = some v) : Src L h size B m vs
  | row (i ety sz : Nat) (g : Addr) (n cap : Nat) (xs vs : List Value) (j : Nat) (hi : nth L i = some (.row ety sz (some g) n cap xs)) (hB : B = some (g.add j)) (hl : vs.length = m * size)
      (hc : ∀ k v, vs[k]? = some v → xs[j + k]? = some v) : Src L h size B m vs

inductive EvAppend (ety size bytes : Nat) (A : Option Addr) (n cap m : Nat) (S : List Value → Prop) (L : List LE) (K : SV → List LE → Prop) : Prop
  | old (i : Nat) (xs vs : List Value) (hi : nth L i = some (.row ety size A n cap xs)) (hs : S vs) (h1 : ∀ u ∈ vs, u.oneCell' = true) (hm : n + m ≤ maxLen) (hb : (n + m) * bytes ≤ 140737488355328)
      (k : ∀ A' cap', (A' = none ↔ A = none ∧ m = 0) ∧ n + m ≤ cap' → K (.v (.slice A' (n + m) cap')) (setn L i (.row ety size A' (n + m) cap' (xs ++ vs))))
  | fresh (vs : List Value) (hA : A = none) (hn : n = 0) (hcp : cap = 0) (hs : S vs) (h1 : ∀ u ∈ vs, u.oneCell' = true) (hm : m ≤ maxLen) (hb : m * bytes ≤ 140737488355328)
      (k : ∀ A' cap', (A' = none ↔ m = 0) ∧ m ≤ cap' → K (.v (.slice A' m cap')) (L ++ [.row ety size A' m cap' vs]))
  | keep (i : Nat) (g : Addr) (xs vs : List Value) (hA : A = some g) (hi : nth L i = some (.row ety size A n cap xs)) (hs : S vs) (h1 : ∀ u ∈ vs, u.oneCell' = true) (h0 : 0 < m) (hm : n + m ≤ maxLen) (hb : (n + m) * bytes ≤ 140737488355328)
      (k1 : n + m ≤ cap → K (.v (.slice A (n + m) cap)) (setn L i (.row ety size A (n + m) cap (xs ++ vs))))
      (k2 : cap < n + m → ∀ g' cap', n + m ≤ cap' → K (.v (.slice (some g') (n + m) cap')) (L ++ [.row ety size (some g') (n + m) cap' (xs ++ vs)]))

/-- The same, where the old slice may be kept beside the new one. -/
inductive EvAppendK (ety size bytes : Nat) (A : Option Addr) (n cap m : Nat) (S : List Value → Prop) (L : List LE) (K : SV → List LE → Prop) : Prop
  | old (i : Nat) (xs vs : List Value) (hi : nth L i = some (.row ety size A n cap xs)) (hs : S vs) (h1 : ∀ u ∈ vs, u.oneCell' = true) (hm : n + m ≤ maxLen) (hb : (n + m) * bytes ≤ 140737488355328)
      (k : ∀ A' cap', (A' = none ↔ A = none ∧ m = 0) ∧ n + m ≤ cap' → K (.v (.slice A' (n + m) cap')) (setn L i (.row ety size A' (n + m) cap' (xs ++ vs))))
  | fresh (vs : List Value) (hA : A = none) (hn : n = 0) (hcp : cap = 0) (hs : S vs) (h1 : ∀ u ∈ vs, u.oneCell' = true) (hm : m ≤ maxLen) (hb : m * bytes ≤ 140737488355328)
      (k : ∀ A' cap', (A' = none ↔ m = 0) ∧ m ≤ cap' → K (.v (.slice A' m cap')) (L ++ [.row ety size A' m cap' vs]))
  | keep (i : Nat) (g : Addr) (xs vs : List Value) (hA : A = some g) (hi : nth L i = some (.row ety size A n cap xs)) (hs : S vs) (h1 : ∀ u ∈ vs, u.oneCell' = true) (h0 : 0 < m) (hm : n + m ≤ maxLen) (hb : (n + m) * bytes ≤ 140737488355328)
      (k1 : n + m ≤ cap → K (.v (.slice A (n + m) cap)) (setn L i (.row ety size A (n + m) cap (xs ++ vs))))
      (k2 : cap < n + m → ∀ g' cap', n + m ≤ cap' → K (.v (.slice (some g') (n + m) cap')) (L ++ [.row ety size (some g') (n + m) cap' (xs ++ vs)]))
  | room (i : Nat) (g : Addr) (xs vs : List Value) (hA : A = some g) (hi : nth L i = some (.row ety size A n cap xs)) (hs : S vs) (h1 : ∀ u ∈ vs, u.oneCell' = true) (hr : n + m ≤ cap)
      (k : K (.v (.slice A (n + m) cap)) (setn L i (.row ety size A (n + m) cap (xs ++ vs))))
  | push (i : Nat) (xs vs : List Value) (hi : nth L i = some (.row ety size A n cap xs)) (hs : S vs) (h1 : ∀ u ∈ vs, u.oneCell' = true) (hm1 : m = 1) (hm : n + 1 ≤ maxLen) (hb : n * bytes ≤ 140737488355328) (hb1 : bytes ≤ 140737488355328)
      (k : ∀ A' cap', A' ≠ none ∧ n + m ≤ cap' → K (.v (.slice A' (n + m) cap')) (setn L i (.row ety size A' (n + m) cap' (xs ++ vs))))

inductive EvMake (size bytes : Nat) (zero : List Value) (zl zc : Int) (K : Nat → Nat → Addr → List Value → Prop) : Prop
  | mk (m : Nat) (hl : zl = m) (hc : zc = m) (hb : m * bytes ≤ 281474976710656) (hm : m ≤ 9223372036854775807) (k : ∀ g, K m m g (madeCells zero.toArray (m * size)).toList)
  | one (m : Nat) (z : Value) (hz : zero = [z]) (hs : size = 1) (hl : zl = m) (hc : zc = m) (hb : m * bytes ≤ 281474976710656) (hm : m ≤ 9223372036854775807) (k : ∀ g, K m m g (List.replicate m z))
  | room (c : Nat) (hl : zl = 0) (hc : zc = c) (hb : c * bytes ≤ 281474976710656) (hm : c ≤ 9223372036854775807) (k : ∀ g, K 0 c g [])

inductive EvUpd (h : Hp) (b kk : Nat) (ks : List Int) (v : Value) (K : Hp → Prop) : Prop
  | mk (l : List Ent) (clk : Nat) (hm : MapAt h b kk l clk) (k : ∀ clk', K (h.put b (mapObj kk (upsert l ks v clk) clk')))
  | mkC (l : List Ent) (clk : Nat) (hm : MapAt h b kk l clk) (k : K (h.put b (mapObj kk (upsert l ks v clk) (if (assoc l ks).isSome then clk else clk + 1))))

/-- a range over a map begins -/
inductive EvRangeM (h : Hp) (b : Nat) (K : Nat → Hp → Prop) : Prop
  | mk (es : Array MapEntry) (clk : Nat) (hb : h b = some (.map es clk)) (k : ∀ r, h r = none → K r (h.put r (.mapIter (some b) clk #[] clk)))
/-- a step of it: nothing is left, or whichever entry that is left -/
inductive EvNextM (h : Hp) (r : Nat) (K : Value → Hp → Prop) : Prop
  | mk (bm since c0 clk : Nat) (seen : Array Nat) (es : Array MapEntry) (hr : h r = some (.mapIter (some bm) since seen c0)) (hb : h bm = some (.map es clk)) (hold : ∀ x ∈ es.toList, x.born < since) (hsc : since ≤ c0)
      (done : (leftOf es seen).size = 0 → K (.tuple #[.bool false]) h)
      (more : ∀ e ∈ (leftOf es seen).toList, K (.tuple #[.bool true, e.key, e.val]) (h.put r (.mapIter (some bm) since (seen.push e.born) clk)))
/-- the step's entry -/
inductive EvEntryM (h : Hp) (r : Nat) (K : Value → Prop) : Prop
  | mk (bm since clk : Nat) (seen : Array Nat) (es : Array MapEntry) (e : MapEntry) (hr : h r = some (.mapIter (some bm) since (seen.push e.born) clk)) (hb : h bm = some (.map es clk)) (he : e ∈ es.toList) (hn : (es.toList.map (·.born)).Nodup)
      (k : K (.tuple #[e.key, e.val]))

def repS : Nat → List Value → List SV
  | 0, _ => []
  | n + 1, z => (z.map .v) ++ repS n z

def wpCall (P : Program) (n : Nat) (f : FuncId) (svs : List SV) (d : Option Nat) (e : Env) (L : List LE) (h : Hp) (K : KT) : Prop :=
  pubs 40 svs (fun L h => match rawArgs L svs with
    | some vs => Shift (fun L h => EvFn P f vs.toArray L h fun v L h' => putS n d (.v v) e L h' K) L h
    | none => False) L h

def wpCallN (P : Program) (n : Nat) (f : FuncId) (svs : List SV) (d : Option Nat) (e : Env) (L : List LE) (h : Hp) (K : KT) : Prop :=
  match rawArgs L svs with
  | some vs => EvFnM P f vs.toArray (fun v L h' => putS n d (.v v) e L h' K) L h
  | none => False

def wpCallF (P : Program) (n : Nat) (f : FuncId) (svs : List SV) (d : Option Nat) (e : Env) (L : List LE) (h : Hp) (K : KT) : Prop :=
  match rawArgs L svs with
  | some vs => EvFnF P f vs.toArray h fun v h' => putS n d (.v v) e L h' K
  | none => False

def wpAppN (n : Nat) (ety size bytes : Nat) (A : Option Addr) (m cap : Nat) (y : SV) (d : Option Nat) (e : Env) (L : List LE) (h : Hp) (K : KT) : Prop :=
  match y with
  | .v (.slice B k _) => EvAppend ety size bytes A m cap k (Src L h size B k) L fun x L => putS n d x e L h K
  | .s j off k _ => (match nth L j with
    | some (.own cs _) => (match sub cs off (k * size) with
      | some r => (match raws L r with
        | some vs => EvAppend ety size bytes A m cap k (fun l => l = vs) L fun x L => putS n d x e L h K
        | none => False)
      | none => False)
    | _ => False)
  | _ => False
def wpApp (n : Nat) (ety size bytes : Nat) (A : Option Addr) (m cap : Nat) (y : SV) (d : Option Nat) (e : Env) (L : List LE) (h : Hp) (K : KT) : Prop :=
  match y with
  | .v (.slice B k _) => Shift (fun L h => EvAppendK ety size bytes A m cap k (Src L h size B k) L fun x L => putS n d x e L h K) L h
  | .s j off k _ => (match nth L j with
    | some (.own cs _) => (match sub cs off (k * size) with
      | some r => pubs 40 r (fun L h => match raws L r with
        | some vs => Shift (fun L h => EvAppendK ety size bytes A m cap k (fun l => l = vs) L fun x L => putS n d x e L h K) L h
        | none => False) L h
      | none => False)
    | _ => False)
  | _ => False

def wpK (P : Program) (n : Nat) (k : IK) (d : Option Nat) (e : Env) (L : List LE) (h : Hp) (K : KT) : Prop :=
  match k with
  | .alloc ty zero => forceN L.length fun i => forceL (L ++ [.own (zero.map .v) ty]) fun L => putS n d (.p i 0) e L h K
  | .box ty x => (match cellsOf (x.get e) with
    | some cs => forceN L.length fun i => forceL (L ++ [.own cs ty]) fun L => putS n d (.p i 0) e L h K
    | none => False)
  | .bslice ty len size zero parts => bif Nat.ble (len * size) 16777216 then (match fillS (repS len zero) (parts.map fun p => (p.1 * size, size, p.2.get e)) with
    | some cs => forceN L.length fun i => forceL (L ++ [.own cs ty]) fun L => putS n d (.s i 0 len len) e L h K
    | none => False) else False
  | .store m x y => (match cellsOf (y.get e) with
    | some cs => bif ones cs && Nat.beq cs.length m then
        (match x.get e with
        | .p i off => (match nth L i with
          | some (.own xs ty) => (match over xs off cs with
            | some xs' => forceL (setn L i (.own xs' ty)) fun L => putS n d (.v undef) e L h K
            | none => False)
          | some (.pub b) => pubs 40 cs (fun L h => match raws L cs with
            | some vs => EvStore L h ⟨b, off, none⟩ vs fun L h => putS n d (.v undef) e L h K
            | none => False) L h
          | _ => False)
        | .v (.pointer (some a)) => pubs 40 cs (fun L h => match raws L cs with
            | some vs => EvStore L h a vs fun L h => putS n d (.v undef) e L h K
            | none => False) L h
        | _ => False) else False
    | none => False)
  | .set x => force (x.get e) fun x => putS n d x e L h K
  | .callN f args => wpCallN P n f (args.map (Arg.get e)) d e L h K
  | .callF f args => wpCallF P n f (args.map (Arg.get e)) d e L h K
  | .callvN x args => (match x.get e with
    | .v (.func (.func f) first caps) => wpCallN P n f (first.toList.map .v ++ (args.map (Arg.get e) ++ caps.toList.map .v)) d e L h K
    | _ => False)
  | .appendN _ ety size bytes _ x y => (match x.get e with
    | .v (.slice A m cap) => wpAppN n ety size bytes A m cap (y.get e) d e L h K
    | .s i 0 m cap => (match nth L i with
      | some (.own cs ty) => bif Nat.beq cs.length (cap * size) && Nat.ble m cap && Nat.beq ty ety && Nat.ble cap 9223372036854775807 then
          (match raws L cs with
          | some vs => EvPub h fun b => wpAppN n ety size bytes (some ⟨b, 0, none⟩) m cap (y.get e) d e (setn L i .gone ++ [.row ety size (some ⟨b, 0, none⟩) m cap (vs.take (m * size))]) h K
          | none => False) else False
      | _ => False)
    | _ => False)
  | .call f args => wpCall P n f (args.map (Arg.get e)) d e L h K
  | .callv x args => (match x.get e with
    | .v (.func (.func f) first caps) => wpCall P n f (first.toList.map .v ++ (args.map (Arg.get e) ++ caps.toList.map .v)) d e L h K
    | _ => False)
  | .append _ ety size bytes _ x y => (match x.get e with
    | .v (.slice A m cap) => wpApp n ety size bytes A m cap (y.get e) d e L h K
    | .s i 0 m cap => (match nth L i with
      | some (.own cs ty) => bif Nat.beq cs.length (cap * size) && Nat.ble m cap && Nat.beq ty ety && Nat.ble cap 9223372036854775807 then
          (match raws L cs with
          | some vs => EvPub h fun b => wpApp n ety size bytes (some ⟨b, 0, none⟩) m cap (y.get e) d e (setn L i .gone ++ [.row ety size (some ⟨b, 0, none⟩) m cap (vs.take (m * size))]) h K
          | none => False) else False
      | _ => False)
    | _ => False)
  | .mkslice _ ety size bytes zero l c => (match l.get e, c.get e with
    | .v (.int .i64 zl), .v (.int .i64 zc) => EvMake size bytes zero zl zc fun m c g xs => putS n d (.v (.slice (some g) m c)) e (L ++ [.row ety size (some g) m c xs]) h K
    | _, _ => False)
  | .mkfunc f caps => pubs 40 (caps.map (Arg.get e)) (fun L h => match rawArgs L (caps.map (Arg.get e)) with
    | some vs => putS n d (.v (.func (.func f) #[] vs.toArray)) e L h K
    | none => False) L h
  | .mkmap => EvPub h fun b => putS n d (.v (.map (some b))) e L (h.put b (.map #[] 0)) K
  | .mapupd kk x k v => (match x.get e, keyNums kk (k.get e), v.get e with
    | .v (.map (some b)), some ks, .v y => EvUpd h b kk ks y fun h => putS n d (.v undef) e L h K
    | _, _, _ => False)
  | .range x => (match x.get e with
    | .v (.map (some b)) => EvRangeM h b fun r h => putS n d (.v (.pointer (some ⟨r, 0, none⟩))) e L h K
    | _ => False)
  | .next x => (match x.get e with
    | .v (.pointer (some ⟨r, 0, none⟩)) => EvNextM h r fun v h => putS n d (.v v) e L h K
    | _ => False)
  | .entry x => (match x.get e with
    | .v (.pointer (some ⟨r, 0, none⟩)) => EvEntryM h r fun v => putS n d (.v v) e L h K
    | _ => False)
  | k => wpV k e L h fun x => putS n d x e L h K
end Go.Sx
