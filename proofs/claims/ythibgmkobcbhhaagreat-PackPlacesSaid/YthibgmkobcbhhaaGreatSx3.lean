/- The reading operations: what the rules say is what the model does. Conditions: none. -/
import Derived.Test.YthibgmkobcbhhaaGreatSx2
namespace Go.Sx
/-! ### satisfaction -/
def LE.isRow : LE → Bool
  | .row .. => true
  | _ => false
/-- an entry that values may name -/
def refOk (L : List LE) (i : Nat) : Prop := ∃ l, nth L i = some l ∧ l.isRow = false
def SV.ok1 (L : List LE) : SV → Prop
  | .p i _ | .s i _ _ _ | .m i => refOk L i
  | _ => True
def SV.ok (L : List LE) : SV → Prop
  | .a xs => ∀ x ∈ xs, x.ok1 L
  | x => x.ok1 L

def keyEnc : Value → Option (List Int)
  | .int .i64 a => some [a]
  | .agg cs => cs.toList.mapM fun | .int .i64 a => some a | _ => none
  | _ => none
/-- the entries of a map as a function of the key's numbers -/
structure MapIs (es : Array MapEntry) (f : List Int → Option Value) (n : Nat) : Prop where
  size : es.size = n
  keys : ∀ (i : Nat) (e : MapEntry), es[i]? = some e → ∃ k, keyEnc e.key = some k ∧ f k = some e.val
  all : ∀ k v, f k = some v → ∃ (i : Nat) (e : MapEntry), es[i]? = some e ∧ keyEnc e.key = some k ∧ e.val = v
  inj : ∀ (i j : Nat) (e e' : MapEntry) (k : List Int), es[i]? = some e → es[j]? = some e' → keyEnc e.key = some k → keyEnc e'.key = some k → i = j

def LE.sees (β : Nat → Nat) (i : Nat) (w : World) : LE → Prop
  | .own cs ty => w.heap[β i]? = some (.cells (cs.map (SV.c1 β)).toArray ty (0, 0))
  | .pub b => β i = b
  | .row ety size A n cap xs => w.ownsRow 0 ety size (.slice A n cap) n xs ∧ ∀ g, A = some g → g.block = β i
  | .map f n => ∃ es clk, w.heap[β i]? = some (.map es clk) ∧ MapIs es f n
  | .gone => True
structure See (β : Nat → Nat) (L : List LE) (h : Hp) (w : World) : Prop where
  hw : HW h w
  see : ∀ i l, nth L i = some l → l.sees β i w

structure Rel (n : Nat) (β : Nat → Nat) (L : List LE) (e : Env) (a : Act) : Prop where
  defers : a.defers = []
  size : a.tmps.size = n
  env : ∀ t, a.tmps.getD t undef = (e t).c β
  ok : ∀ t, (e t).ok L

theorem SV.c_of {β : Nat → Nat} {x : SV} (h : ∀ xs, x ≠ .a xs) : x.c β = x.c1 β := by
  cases x <;> first | rfl | exact absurd rfl (h _)

theorem Rel.eval {n : Nat} {L : List LE} {β : Nat → Nat} {e : Env} {a : Act} (r : Rel n β L e a) (x : Operand) : a.eval x = ((lowArg x).get e).c β := by
  cases x with
  | tmp t => exact r.env t
  | const v => rfl
  | global g => rfl
  | func f => rfl
theorem Rel.okArg {n : Nat} {L : List LE} {β : Nat → Nat} {e : Env} {a : Act} (r : Rel n β L e a) (x : Operand) : ((lowArg x).get e).ok L := by
  cases x with
  | tmp t => exact r.ok t
  | const v => trivial
  | global g => trivial
  | func f => trivial

theorem add_lit (b o k : Nat) : (Addr.mk b o none).add k = ⟨b, o + k, none⟩ := by
  unfold Addr.add; split <;> simp_all
theorem add_add (a : Addr) (i j : Nat) : (a.add i).add j = a.add (i + j) := by
  unfold Addr.add
  by_cases hi : i = 0 <;> by_cases hj : j = 0 <;> simp [hi, hj, Nat.add_assoc]
theorem block_add (a : Addr) (n : Nat) : (a.add n).block = a.block := by unfold Addr.add; split <;> rfl

section
variable {P : Program} {w : World}
theorem run_loadCellsFrom (a : Addr) : ∀ (vs : List Value) (i : Nat) (acc : Array Value), (∀ j v, vs[j]? = some v → w.cell? (a.add (i + j)) = some v) →
    (loadCellsFrom a i vs.length acc).run P w = .ok (acc ++ vs.toArray) w
  | [], i, acc, _ => by simp [loadCellsFrom]
  | v :: vs, i, acc, h => by
    have h0 : w.cell? (a.add i) = some v := h 0 v rfl
    simp only [List.length_cons, loadCellsFrom, Sem.run_bind, run_load, h0, Result.andThen_ok]
    rw [run_loadCellsFrom a vs (i + 1) (acc.push v) (fun j u hu => by have := h (j + 1) u (by simpa using hu); rwa [show i + (j + 1) = i + 1 + j by omega] at this)]
    congr 1
    simp
theorem run_loadCells (a : Addr) (vs : List Value) (h : ∀ j v, vs[j]? = some v → w.cell? (a.add j) = some v) :
    (loadCells a vs.length).run P w = .ok vs.toArray w := by
  unfold loadCells
  rw [run_loadCellsFrom a vs 0 #[] (by simpa using h)]
  simp
theorem run_isAgg {t : TypeId} (h : P.underlying t ≠ none) : (isAgg t).run P w = .ok (tyAgg P t) w := by
  unfold isAgg tyAgg
  cases hu : P.underlying t with
  | none => exact absurd hu h
  | some d => cases d <;> simp [underlying, hu]
theorem run_sizeOf {t : TypeId} {i : TypeInfo} (h : P.info? t = some i) : (sizeOf t).run P w = .ok i.size w := by
  simp [sizeOf, typeInfo, h]
theorem tySize_of {t : TypeId} {i : TypeInfo} (h : P.info? t = some i) : tySize P t = i.size := by simp [tySize, h]
end

theorem sees_cell {β : Nat → Nat} {L : List LE} {h : Hp} {w : World} (s : See β L h w) {i : Nat} {cs : List SV} {ty : Nat} (hi : nth L i = some (.own cs ty)) {off : Nat} {x : SV} (hx : cs[off]? = some x) :
    w.cell? ⟨β i, off, none⟩ = some (x.c1 β) := by
  have := s.see i _ hi
  simp only [LE.sees] at this
  simp [World.cell?, this, hx]
theorem sees_row {β : Nat → Nat} {L : List LE} {h : Hp} {w : World} (s : See β L h w) {i ety size n cap : Nat} {g : Addr} {xs : List Value} (hi : nth L i = some (.row ety size (some g) n cap xs)) {j : Nat} {v : Value} (hv : xs[j]? = some v) :
    w.cell? (g.add j) = some v := by
  obtain ⟨⟨_, hr⟩, _⟩ := s.see i _ hi
  rcases hr with ⟨h0, _⟩ | ⟨b, c, cur, hv', _, hb, _, _, _, hxs⟩
  · cases h0
  · injection hv' with e1 _ _
    injection e1 with e1
    subst e1
    rw [add_lit]
    have hc : cur[j]? = some v := by
      rw [← hxs, List.getElem?_take] at hv
      split at hv
      · simpa using hv
      · cases hv
    simp [World.cell?, hb, hc]


section
variable {P : Program} {n : Nat} {β : Nat → Nat} {L : List LE} {h : Hp} {e : Env} {a : Act}

theorem c1_ok {L' : List LE} {x : SV} (hx : x.ok1 L) (hm : ∀ i, refOk L i → refOk L' i) : x.ok1 L' := by
  cases x <;> simp only [SV.ok1] at * <;> exact hm _ hx
theorem ok_mono {L' : List LE} {x : SV} (hx : x.ok L) (hm : ∀ i, refOk L i → refOk L' i) : x.ok L' := by
  cases x with
  | a xs => exact fun y hy => c1_ok (hx y hy) hm
  | _ => simp only [SV.ok] at *; exact c1_ok hx hm

/-- What a reading operation yields. -/
def Yields (P : Program) (o : Oper) (a : Act) (β : Nat → Nat) (L : List LE) (h : Hp) (sv : SV) : Prop :=
  ∀ w, See β L h w → (execOp a.eval o).run P w = .ok (.value (sv.c β)) w

theorem nth_lt {α : Type} {l : List α} {i : Nat} {x : α} (h : nth l i = some x) : i < l.length := by
  rw [nth_eq] at h
  exact (List.getElem?_eq_some_iff.1 h).1

theorem execV_move (hr : Rel n β L e a) {o : Oper} {x : Operand} (ho : o.op = .move x) {V : SV → Prop} (hv : wpV (.mv (lowArg x)) e L h V) :
    ∃ sv, V sv ∧ sv.ok L ∧ Yields P o a β L h sv := by
  simp only [wpV, force_eq] at hv
  refine ⟨_, hv, hr.okArg x, fun w _ => ?_⟩
  simp [execOp, ho, hr.eval x]

theorem execV_pick (hr : Rel n β L e a) {o : Oper} {c x y : Operand} (ho : o.op = .pick c x y) {V : SV → Prop}
    (hv : wpV (.pick (lowArg c) (lowArg x) (lowArg y)) e L h V) : ∃ sv, V sv ∧ sv.ok L ∧ Yields P o a β L h sv := by
  simp only [wpV, force_eq] at hv
  split at hv
  · rename_i t hc
    cases t with
    | true => exact ⟨_, hv, hr.okArg x, fun w _ => by simp [execOp, ho, hr.eval c, hc, SV.c, SV.c1, asBool, hr.eval x]⟩
    | false => exact ⟨_, hv, hr.okArg y, fun w _ => by simp [execOp, ho, hr.eval c, hc, SV.c, SV.c1, asBool, hr.eval y]⟩
  · exact hv.elim

theorem tyOk_info {t : TypeId} (ht : tyOk P t = true) : ∃ i, P.info? t = some i := by
  simp only [tyOk, Bool.and_eq_true, Option.isSome_iff_exists] at ht
  exact ht.2
theorem tyOk_und {t : TypeId} (ht : tyOk P t = true) : P.underlying t ≠ none := by
  simp only [tyOk, Bool.and_eq_true, Option.isSome_iff_exists] at ht
  obtain ⟨d, hd⟩ := ht.1
  rw [hd]; simp

theorem run_loadVar_one {t : TypeId} (ht : tyOk P t = true) (hg : tyAgg P t = false) {w : World} {ad : Addr} {v : Value} (hc : w.cell? ad = some v) : (loadVar t ad).run P w = .ok v w := by
  simp [loadVar, run_isAgg (tyOk_und ht), hg, hc]
theorem run_loadVar_agg {t : TypeId} (ht : tyOk P t = true) (hg : tyAgg P t = true) {w : World} {ad : Addr} {vs : List Value} (hl : vs.length = tySize P t) (hc : ∀ j v, vs[j]? = some v → w.cell? (ad.add j) = some v) :
    (loadVar t ad).run P w = .ok (.agg vs.toArray) w := by
  obtain ⟨i, hi⟩ := tyOk_info ht
  have hs : i.size = vs.length := by rw [hl, tySize_of hi]
  simp [loadVar, run_isAgg (tyOk_und ht), hg, run_sizeOf hi, hs, run_loadCells ad vs hc]

theorem ok_nth {cs : List SV} (hcs : ∀ x ∈ cs, x.ok1 L) {i : Nat} {x : SV} (hx : nth cs i = some x) : x.ok1 L := by
  rw [nth_eq] at hx
  exact hcs x (List.mem_of_getElem? hx)
theorem ok_of_ok1 {x : SV} (hx : x.ok1 L) (hn : ∀ xs, x ≠ .a xs) : x.ok L := by
  cases x with
  | a xs => exact absurd rfl (hn _)
  | _ => exact hx

/-- the cells of local blocks name local blocks that are there -/
def OkL (L : List LE) : Prop := ∀ i cs ty, nth L i = some (.own cs ty) → ∀ x ∈ cs, x.ok1 L

theorem c1_vs (β : Nat → Nat) (vs : List Value) : (vs.map SV.v).map (SV.c1 β) = vs := by
  induction vs with
  | nil => rfl
  | cons v vs ih => simp only [List.map_cons, ih]; rfl
theorem c_vs (β : Nat → Nat) (vs : List Value) : SV.c β (.a (vs.map .v)) = .agg vs.toArray := by
  show Value.agg ((vs.map SV.v).map (SV.c1 β)).toArray = _
  rw [c1_vs]
theorem ok_vs (L : List LE) (vs : List Value) : SV.ok L (.a (vs.map .v)) := by
  intro x hx
  obtain ⟨v, _, rfl⟩ := List.mem_map.1 hx
  trivial
theorem see_pub {w : World} (hw : See β L h w) {i b off : Nat} (hi : nth L i = some (.pub b)) : SV.c β (.p i off) = .pointer (some ⟨b, off, none⟩) := by
  have := hw.see i _ hi
  simp only [LE.sees] at this
  subst this; rfl

theorem execV_load (hr : Rel n β L e a) (hL : OkL L) {o : Oper} {t : TypeId} {x : Operand} (ho : o.op = .load t x) (ht : tyOk P t = true) {V : SV → Prop}
    (hv : wpV (.load (tyAgg P t) (tySize P t) (lowArg x)) e L h V) : ∃ sv, V sv ∧ sv.ok L ∧ Yields P o a β L h sv := by
  have hx := hr.eval x
  cases hg : tyAgg P t with
  | true =>
    simp only [hg, wpV] at hv
    have raw : ∀ ad : Addr, (∀ w, See β L h w → ((lowArg x).get e).c β = .pointer (some ad)) → EvLoadN L h ad (tySize P t) V → ∃ sv, V sv ∧ sv.ok L ∧ Yields P o a β L h sv := by
      intro ad hp hl
      cases hl with
      | hp vs hl hc k =>
        refine ⟨_, k, ok_vs _ _, fun w hw => ?_⟩
        rw [c_vs]
        simp [execOp, ho, hx, hp w hw, Instr.loadAt, Instr.sureAddr, run_loadVar_agg ht hg hl (fun j v e => hw.hw.cell (hc j v e))]
      | row i ety size g m cap xs j vs hi ha hl hvv k =>
        refine ⟨_, k, ok_vs _ _, fun w hw => ?_⟩
        subst ha
        rw [c_vs]
        simp [execOp, ho, hx, hp w hw, Instr.loadAt, Instr.sureAddr, run_loadVar_agg ht hg hl (fun q v e => by rw [add_add]; exact sees_row hw hi (hvv q v e))]
    split at hv
    · rename_i i off hp
      split at hv
      · rename_i cs ty hi
        split at hv
        · rename_i r hs
          obtain ⟨hs1, hs2⟩ := sub_eq _ _ _ _ hs
          refine ⟨_, hv, ?_, fun w hw => ?_⟩
          · show ∀ y ∈ r, y.ok1 L
            intro y hy
            rw [hs1] at hy
            exact hL i cs ty hi y (List.mem_of_mem_drop (List.mem_of_mem_take hy))
          · have hcell : ∀ j v, (r.map (SV.c1 β))[j]? = some v → w.cell? ((Addr.mk (β i) off none).add j) = some v := by
              intro j v e
              rw [List.getElem?_map, Option.map_eq_some_iff] at e
              obtain ⟨y, hy, rfl⟩ := e
              rw [add_lit]
              refine sees_cell hw hi ?_
              rw [hs1, List.getElem?_take] at hy
              split at hy
              · simpa [List.getElem?_drop] using hy
              · cases hy
            have hlen : (r.map (SV.c1 β)).length = tySize P t := by simp [hs2]
            simp [execOp, ho, hx, hp, SV.c, SV.c1, Instr.loadAt, Instr.sureAddr, run_loadVar_agg ht hg hlen hcell]
        · exact hv.elim
      · rename_i b hi
        exact raw ⟨b, off, none⟩ (fun w hw => by rw [hp]; exact see_pub hw hi) hv
      · exact hv.elim
    · rename_i ad hp
      exact raw ad (fun _ _ => by rw [hp]; rfl) hv
    · exact hv.elim
  | false =>
    simp only [hg, wpV] at hv
    have raw : ∀ ad : Addr, (∀ w, See β L h w → ((lowArg x).get e).c β = .pointer (some ad)) → EvLoad L h ad V → ∃ sv, V sv ∧ sv.ok L ∧ Yields P o a β L h sv := by
      intro ad hp hl
      cases hl with
      | hp v hc k =>
        refine ⟨_, k, trivial, fun w hw => ?_⟩
        show _ = Result.ok (Next.value v) w
        simp [execOp, ho, hx, hp w hw, Instr.loadAt, Instr.sureAddr, run_loadVar_one ht hg (hw.hw.cell hc)]
      | row i ety size g m cap xs j v hi ha hvv k =>
        refine ⟨_, k, trivial, fun w hw => ?_⟩
        subst ha
        show _ = Result.ok (Next.value v) w
        simp [execOp, ho, hx, hp w hw, Instr.loadAt, Instr.sureAddr, run_loadVar_one ht hg (sees_row hw hi hvv)]
    split at hv
    · rename_i i off hp
      split at hv
      · rename_i cs ty hi
        split at hv
        · exact hv.elim
        · rename_i r hne hs
          have hn : ∀ xs, r ≠ .a xs := fun xs e => hne xs e
          refine ⟨_, hv, ok_of_ok1 (ok_nth (hL i cs ty hi) hs) hn, fun w hw => ?_⟩
          rw [SV.c_of hn]
          simp [execOp, ho, hx, hp, SV.c, SV.c1, Instr.loadAt, Instr.sureAddr, run_loadVar_one ht hg (sees_cell hw hi (by rw [← nth_eq]; exact hs))]
        · exact hv.elim
      · rename_i b hi
        exact raw ⟨b, off, none⟩ (fun w hw => by rw [hp]; exact see_pub hw hi) hv
      · exact hv.elim
    · rename_i ad hp
      exact raw ad (fun _ _ => by rw [hp]; rfl) hv
    · exact hv.elim

theorem execV_nilck (hr : Rel n β L e a) {o : Oper} {x : Operand} (ho : o.op = .nilCheck x) {V : SV → Prop}
    (hv : wpV (.nilck (lowArg x)) e L h V) : ∃ sv, V sv ∧ sv.ok L ∧ Yields P o a β L h sv := by
  have hx := hr.eval x
  have hk := hr.okArg x
  simp only [wpV] at hv
  split at hv
  · rename_i i off hp
    rw [hp] at hk
    exact ⟨_, hv, hk, fun w hw => by simp [execOp, ho, hx, hp, SV.c, SV.c1]⟩
  · rename_i ad hp
    exact ⟨_, hv, trivial, fun w hw => by simp [execOp, ho, hx, hp, SV.c, SV.c1]⟩
  · exact hv.elim

theorem EvInt.out {z : Int} {V : Int → Prop} (hh : EvInt z V) : V (IntKind.i64.wrap z) := by
  cases hh with
  | ok h0 h1 k => rw [show IntKind.i64.wrap z = z from IntWalk.i64_in z ⟨h0, h1⟩]; exact k
  | wrap k => exact k

theorem execV_arith (hr : Rel n β L e a) {o : Oper} {op : BinOp} {t t' : TypeId} {x y : Operand} (ho : o.op = .binOp op t x y t') {V : SV → Prop}
    (hv : wpV (.arith op (lowArg x) (lowArg y)) e L h V) : ∃ sv, V sv ∧ sv.ok L ∧ Yields P o a β L h sv := by
  have hx := hr.eval x
  have hy := hr.eval y
  simp only [wpV] at hv
  split at hv
  · rename_i i j hp hq
    rw [hp] at hx
    rw [hq] at hy
    split at hv
    · exact ⟨_, hv.out, trivial, fun w hw => by simp [execOp, ho, hx, hy, SV.c, SV.c1, binOp_add, eqGuard_add, Op.intArith]⟩
    · exact ⟨_, hv.out, trivial, fun w hw => by simp [execOp, ho, hx, hy, SV.c, SV.c1, binOp_sub, eqGuard_sub, Op.intArith]⟩
    · exact ⟨_, hv.out, trivial, fun w hw => by simp [execOp, ho, hx, hy, SV.c, SV.c1, binOp_mul, eqGuard_mul, Op.intArith]⟩
    · exact hv.elim
  · exact hv.elim

theorem execV_cmp (hr : Rel n β L e a) {o : Oper} {op : BinOp} {t t' : TypeId} {x y : Operand} (ho : o.op = .binOp op t x y t') {V : SV → Prop}
    (hv : wpV (.cmp op (lowArg x) (lowArg y)) e L h V) : ∃ sv, V sv ∧ sv.ok L ∧ Yields P o a β L h sv := by
  have hx := hr.eval x
  have hy := hr.eval y
  simp only [wpV] at hv
  split at hv
  · rename_i i j hp hq
    rw [hp] at hx
    rw [hq] at hy
    split at hv
    · exact ⟨_, hv, trivial, fun w hw => by simp [execOp, ho, hx, hy, SV.c, SV.c1, binOp_eql, eqGuard_at_int]; rfl⟩
    · exact ⟨_, hv, trivial, fun w hw => by simp [execOp, ho, hx, hy, SV.c, SV.c1, binOp_neq, eqGuard_at_int]; rfl⟩
    · exact ⟨_, hv, trivial, fun w hw => by simp [execOp, ho, hx, hy, SV.c, SV.c1, binOp_lss, eqGuard_at_int]⟩
    · exact ⟨_, hv, trivial, fun w hw => by simp [execOp, ho, hx, hy, SV.c, SV.c1, binOp_leq, eqGuard_at_int]⟩
    · exact ⟨_, hv, trivial, fun w hw => by simp [execOp, ho, hx, hy, SV.c, SV.c1, binOp_gtr, eqGuard_at_int]⟩
    · exact ⟨_, hv, trivial, fun w hw => by simp [execOp, ho, hx, hy, SV.c, SV.c1, binOp_geq, eqGuard_at_int]⟩
    · exact hv.elim
  · exact hv.elim

theorem execV_not (hr : Rel n β L e a) {o : Oper} {t : TypeId} {x : Operand} (ho : o.op = .unOp .not t x) {V : SV → Prop}
    (hv : wpV (.unop .not (lowArg x)) e L h V) : ∃ sv, V sv ∧ sv.ok L ∧ Yields P o a β L h sv := by
  have hx := hr.eval x
  simp only [wpV] at hv
  split at hv
  · rename_i b hp
    exact ⟨_, hv, trivial, fun w hw => by simp [execOp, ho, hx, hp, SV.c, SV.c1, Op.unary]⟩
  · exact hv.elim

theorem execV_fieldA (hr : Rel n β L e a) {o : Oper} {t : TypeId} {i : Nat} {x : Operand} {f : Field} (ho : o.op = .fieldAddr t x i) (hf : fldOf P t i = some f) (ht : (tyOk P f.type && !Nat.beq (tySize P f.type) 0) = true) {V : SV → Prop}
    (hv : wpV (.fieldA f.offset (lowArg x)) e L h V) : ∃ sv, V sv ∧ sv.ok L ∧ Yields P o a β L h sv := by
  have hx := hr.eval x
  have hk := hr.okArg x
  simp only [Bool.and_eq_true] at ht
  obtain ⟨ht, hz⟩ := ht
  obtain ⟨j, hj⟩ := tyOk_info ht
  have hsz : j.size ≠ 0 := fun e => by rw [tySize_of hj, e] at hz; cases hz
  have hfs : ∃ fs, P.underlying t = some (.struct fs) ∧ fs[i]? = some f := by
    unfold fldOf at hf
    split at hf
    · exact ⟨_, by assumption, hf⟩
    · cases hf
  obtain ⟨fs, hu, hfi⟩ := hfs
  have go : ∀ (w : World) (ad : Addr), (fieldPlace ad f).run P w = .ok (ad.add f.offset) w := fun w ad => by
    simp [fieldPlace, run_sizeOf hj, hsz]
  simp only [wpV] at hv
  split at hv
  · rename_i l off hp
    rw [hp] at hk
    refine ⟨_, hv, hk, fun w hw => ?_⟩
    simp [execOp, ho, hx, hp, SV.c, SV.c1, Instr.fieldAt, run_underlying hu, hfi, Instr.sureAddr, go, add_lit]
  · rename_i ad hp
    refine ⟨_, hv, trivial, fun w hw => ?_⟩
    simp [execOp, ho, hx, hp, SV.c, SV.c1, Instr.fieldAt, run_underlying hu, hfi, Instr.sureAddr, go]
  · exact hv.elim

theorem execV_indexA (hr : Rel n β L e a) {o : Oper} {t el : TypeId} {x i : Operand} (ho : o.op = .indexAddr t x i) (hu : P.underlying t = some (.slice el)) (ht : tyOk P el = true) {V : SV → Prop}
    (hv : wpV (.indexA (tySize P el) (lowArg x) (lowArg i)) e L h V) : ∃ sv, V sv ∧ sv.ok L ∧ Yields P o a β L h sv := by
  have hx := hr.eval x
  have hi := hr.eval i
  have hk := hr.okArg x
  obtain ⟨j, hj⟩ := tyOk_info ht
  rw [tySize_of hj] at hv
  simp only [wpV] at hv
  split at hv
  · rename_i A m cap z hp hq
    obtain ⟨ad, rfl, h0, h1, k⟩ := hv
    refine ⟨_, k, trivial, fun w hw => ?_⟩
    simp [execOp, ho, hx, hi, hp, hq, SV.c, SV.c1, Instr.indexAt, run_underlying hu, asIntOf, run_sizeOf hj, h0, h1]
  · rename_i l off m cap z hp hq
    obtain ⟨h0, h1, k⟩ := hv
    rw [hp] at hk
    refine ⟨_, k, hk, fun w hw => ?_⟩
    simp [execOp, ho, hx, hi, hp, hq, SV.c, SV.c1, Instr.indexAt, run_underlying hu, asIntOf, run_sizeOf hj, h0, h1, add_lit]
  · exact hv.elim

theorem execV_indexP (hr : Rel n β L e a) {o : Oper} {t el : TypeId} {m : Nat} {x i : Operand} (ho : o.op = .indexAddr t x i) (hu : P.underlying t = some (.array m el)) (ht : tyOk P el = true) {V : SV → Prop}
    (hv : wpV (.indexP m (tySize P el) (lowArg x) (lowArg i)) e L h V) : ∃ sv, V sv ∧ sv.ok L ∧ Yields P o a β L h sv := by
  have hx := hr.eval x
  have hi := hr.eval i
  have hk := hr.okArg x
  obtain ⟨j, hj⟩ := tyOk_info ht
  rw [tySize_of hj] at hv
  simp only [wpV] at hv
  split at hv
  · rename_i ad z hp hq
    obtain ⟨h0, h1, k⟩ := evPlace_out hv
    rw [hq] at hi
    rw [hp] at hx
    have hi : a.eval i = .int .i64 z := hi
    refine ⟨_, k, trivial, fun w hw => ?_⟩
    simp [execOp, ho, hx, hi, SV.c, SV.c1, Instr.indexAt, Instr.sureAddr, run_underlying hu, asIntOf, run_sizeOf hj, h0, h1]
  · rename_i l off z hp hq
    obtain ⟨h0, h1, k⟩ := evPlace_out hv
    rw [hp] at hk
    rw [hq] at hi
    rw [hp] at hx
    have hi : a.eval i = .int .i64 z := hi
    refine ⟨_, k, hk, fun w hw => ?_⟩
    simp [execOp, ho, hx, hi, SV.c, SV.c1, Instr.indexAt, Instr.sureAddr, run_underlying hu, asIntOf, run_sizeOf hj, h0, h1, add_lit]
  · rename_i ad tt hp hq
    split at hv
    · rename_i z hz
      obtain ⟨h0, h1, k⟩ := hv
      rw [hz] at hi
      refine ⟨_, k, trivial, fun w hw => ?_⟩
      simp [execOp, ho, hx, hi, hp, SV.c, SV.c1, Instr.indexAt, Instr.sureAddr, run_underlying hu, asIntOf, run_sizeOf hj, h0, h1]
    · exact hv.elim
  · exact hv.elim

theorem execV_len (hr : Rel n β L e a) {o : Oper} {t el : TypeId} {x : Operand} (ho : o.op = .call { callee := .builtin .len, args := #[x], argTypes := #[t] }) (hu : P.underlying t = some (.slice el)) {V : SV → Prop}
    (hv : wpV (.len t (lowArg x)) e L h V) : ∃ sv, V sv ∧ sv.ok L ∧ Yields P o a β L h sv := by
  have hx := hr.eval x
  simp only [wpV] at hv
  split at hv
  · rename_i A m cap hp
    exact ⟨_, hv, trivial, fun w hw => by simp [execOp, ho, resolve, invoke, builtin, hx, hp, SV.c, SV.c1, Builtin.len_, run_underlying hu, goInt]⟩
  · rename_i l off m cap hp
    exact ⟨_, hv, trivial, fun w hw => by simp [execOp, ho, resolve, invoke, builtin, hx, hp, SV.c, SV.c1, Builtin.len_, run_underlying hu, goInt]⟩
  · exact hv.elim

theorem execV_extract (hr : Rel n β L e a) {o : Oper} {i : Nat} {x : Operand} (ho : o.op = .extract x i) {V : SV → Prop}
    (hv : wpV (.extract (lowArg x) i) e L h V) : ∃ sv, V sv ∧ sv.ok L ∧ Yields P o a β L h sv := by
  have hx := hr.eval x
  simp only [wpV] at hv
  split at hv
  · rename_i vs hp
    split at hv
    · rename_i v hi
      have hi' : vs[i]? = some v := by rw [nth_eq] at hi; simpa using hi
      exact ⟨_, hv, trivial, fun w hw => by simp [execOp, ho, hx, hp, SV.c, SV.c1, Instr.extract, hi']⟩
    · exact hv.elim
  · exact hv.elim
end
end Go.Sx
