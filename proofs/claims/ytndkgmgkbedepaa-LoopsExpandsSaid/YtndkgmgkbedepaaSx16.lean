/- Range over a function: code, loops and whole functions. Conditions: none. -/
import Derived.Test.YtndkgmgkbedepaaSx15
namespace Go.Sx
open Go.RowKit
/-- A function that yields: what it is ranged over for. -/
def Iter (P : Program) (g : FuncId) (lead trail : List Value) (T : Hp → Prop) (xs : List Int) : Prop :=
  ∀ (l : Nat) (J Jx : List Int → Hp → Prop), (∀ pre h, J pre h → T h) →
    (∀ pre x h, J pre h → pre ++ [x] <+: xs → Yd P l #[.int .i64 x] h fun v h' => (v = .bool true ∧ J (pre ++ [x]) h') ∨ (v = .bool false ∧ Jx (pre ++ [x]) h')) →
    ∀ h, J [] h → Fn P g (lead ++ (.func (.yield l) #[] #[] :: trail)).toArray h fun _ h' => J xs h' ∨ ∃ pre, pre <+: xs ∧ Jx pre h'

inductive EvIt (P : Program) (n : Nat) (g : FuncId) (lead trail : List Value) (p : Nat) (B : Post → Env → List LE → Hp → Prop) (Q : Post) (e : Env) (slots : List Nat) (vs : List Value) (L : List LE) (h : Hp) : Prop
  | mk (T : Hp → Prop) (xs : List Int) (J : List Int → Hp → Prop) (Jx : Exit → List Int → Hp → Prop) (hIt : Iter P g lead trail T xs) (hmono : ∀ h h', h.le h' → T h → T h')
      (hp : Nat.blt p n = true) (h0 : J [] h) (hT : ∀ pre h, J pre h → T h)
      (round : ∀ e0 pre x h, J pre h → pre ++ [x] <+: xs → B (fun ex _ L' h' => match ex with
        | .normal => Shift (fun _ h' => J (pre ++ [x]) h') L' h'
        | .exit id => Shift (fun _ h' => Jx (.exit id) (pre ++ [x]) h') L' h'
        | .ret => Shift (fun _ h' => Jx .ret (pre ++ [x]) h') L' h'
        | _ => False) (upd (updL e0 slots (vs.map .v)) p (.v (.int .i64 x))) [] h)
      (done : ∀ h', J xs h' → Q .normal e L h')
      (stop : ∀ ex pre h', pre <+: xs → Jx ex pre h' → Q ex e L h')
inductive EvRange (P : Program) (n : Nat) (g : FuncId) (lead trail : List Value) (p : Nat) (B : Post → Env → List LE → Hp → Prop) (Q : Post) (e : Env) (L : List LE) (h : Hp) : Prop
  | mk (slots : List Nat) (k : pubs 40 (slots.map e) (fun L h => match rawArgs L (slots.map e) with
      | some vs => Shift (fun L h => EvIt P n g lead trail p B Q e slots vs L h) L h
      | none => False) L h)

/-- so many rounds at most, one by one -/
def unr (B : Post → Env → List LE → Hp → Prop) (Q : Post) : Nat → Env → List LE → Hp → Prop
  | 0, _, _, _ => False
  | k + 1, e, L, h => B (fun ex e L h => match ex with | .normal => unr B Q k e L h | ex => Q ex e L h) e L h
inductive EvLoopY (B : Post → Env → List LE → Hp → Prop) (Q : Post) (e : Env) (L : List LE) (h : Hp) : Prop
  | base (x : EvLoop B Q e L h)
  | unroll (k : Nat) (x : unr B Q k e L h)

def wpIRY (P : Program) (n : Nat) (rd : Bool) : IR → Post → Env → List LE → Hp → Prop
  | .skip, Q, e, L, h => Q .normal e L h
  | .reg ops, Q, e, L, h => wpOpsY P n ops e L h (Q .normal)
  | .seq a b, Q, e, L, h => wpIRY P n rd a (fun x e L h => match x with | .normal => wpIRY P n rd b Q e L h | x => Q x e L h) e L h
  | .cond c x y, Q, e, L, h => (match c.get e with
    | .v (.bool b) => br b (wpIRY P n rd x Q (setA e c true) L h) (wpIRY P n rd y Q (setA e c false) L h)
    | _ => False)
  | .block id b, Q, e, L, h => wpIRY P n rd b (fun x e L h => match x with | .exit j => bif Nat.beq j id then Q .normal e L h else Q (.exit j) e L h | x => Q x e L h) e L h
  | .loop b, Q, e, L, h => EvLoopY (fun Q e L h => wpIRY P n rd b Q e L h) Q e L h
  | .exit id, Q, e, L, h => Q (.exit id) e L h
  | .label, Q, e, L, h => Q .normal e L h
  | .ret, Q, e, L, h => Q .ret e L h
  | .rfun f ps a b, Q, e, L, h => (match rd, ps, f.get e with
    | false, [p], .v (.func (.func g) first caps) => EvRange P n g first.toList caps.toList p (fun Q e L h => wpIRY P n true a (fun x e L h => match x with | .normal => wpIRY P n true b Q e L h | _ => False) e L h) Q e L h
    | _, _, _ => False)
  | _, _, _, _, _ => False

/-! ### soundness -/
/-- one base behind another -/
structure Base (h0 : Hp) (w0 : World) (h1 : Hp) (w1 : World) : Prop where
  fresh : ∀ j, h1 j ≠ none → h0 j ≠ none ∨ w0.heap.size ≤ j
  os : w1.os = w0.os
  tape : w1.tape = w0.tape
  output : w1.output = w0.output
  size : w0.heap.size ≤ w1.heap.size
  frame : ∀ j, j < w0.heap.size → h0 j = none → w1.heap[j]? = w0.heap[j]?

section
variable {P : Program} {h0 h1 : Hp} {w0 w1 : World} {n : Nat} {β : Nat → Nat} {L : List LE} {h : Hp} {e : Env} {a : Act} {w : World} {ro : Option Nat} {ds : List Deferred}

theorem Base.refl (h : Hp) (w : World) : Base h w h w := ⟨fun _ => .inl, rfl, rfl, rfl, Nat.le_refl _, fun _ _ _ => rfl⟩
theorem Base.none_ (b : Base h0 w0 h1 w1) {j : Nat} (hj : j < w0.heap.size) (hn : h0 j = none) : h1 j = none := by
  cases e : h1 j with
  | none => rfl
  | some o =>
    rcases b.fresh j (by rw [e]; simp) with hh | hh
    · exact absurd hn hh
    · omega
theorem Base.trans {h2 : Hp} {w2 : World} (b : Base h0 w0 h1 w1) (c : Base h1 w1 h2 w2) : Base h0 w0 h2 w2 :=
  ⟨fun j hj => by
    rcases c.fresh j hj with hh | hh
    · exact b.fresh j hh
    · exact .inr (Nat.le_trans b.size hh), c.os.trans b.os, c.tape.trans b.tape, c.output.trans b.output, Nat.le_trans b.size c.size, fun j hj hn => by
    rw [c.frame j (Nat.lt_of_lt_of_le hj b.size) (b.none_ hj hn)]; exact b.frame j hj hn⟩
theorem Mem.base (b : Base h0 w0 h1 w1) (m : Mem h1 w1 β L h w) : Mem h0 w0 β L h w :=
  ⟨m.see, m.hole, m.inj, m.lt, fun i l hl hv => by
    rcases m.lo i l hl hv with hh | hh
    · exact b.fresh _ hh
    · exact .inr (Nat.le_trans b.size hh), m.os.trans b.os, m.tape.trans b.tape, m.output.trans b.output, Nat.le_trans b.size m.size, fun j hj hn => by
    rw [m.frame j (Nat.lt_of_lt_of_le hj b.size) (b.none_ hj hn)]; exact b.frame j hj hn, fun j hj => by
    rcases m.fresh j hj with hh | hh
    · exact b.fresh j hh
    · exact .inr (Nat.le_trans b.size hh)⟩

theorem sees_put {i l : Nat} {o : Obj} {k : LE} (hs : k.sees β i w) (hne : k.live = true → β i ≠ l) : k.sees β i (w.putObj l o) := by
  cases k with
  | own cs ty => simp only [LE.sees] at hs ⊢; rw [World.putObj_heap_other (hne rfl)]; exact hs
  | pub b => exact hs
  | row ety size A n cap xs =>
    simp only [LE.sees] at hs ⊢
    obtain ⟨⟨h1, h2⟩, h3⟩ := hs
    refine ⟨⟨h1, ?_⟩, h3⟩
    rcases h2 with h2 | ⟨g, c, cur, e1, e2, e3, e4⟩
    · exact .inl h2
    · injection e1 with e1 e1' e1''
      have hg := h3 _ e1
      subst e1
      simp only at hg
      exact .inr ⟨g, c, cur, by rw [e1''], e2, by rw [World.putObj_heap_other (by rw [hg]; exact hne rfl)]; exact e3, e4⟩
  | map f k' => simp only [LE.sees] at hs ⊢; rw [World.putObj_heap_other (hne rfl)]; exact hs
  | gone => trivial

/-- A block that is neither of the heap nor a local one is written over, in the base too. -/
theorem Mem.poke (m : Mem h0 w0 β L h w) {l : Nat} (hl : l < w0.heap.size) (hn : h0 l = none) (o o' : Obj) (he : o = o' ) : Mem h0 (w0.putObj l o) β L h (w.putObj l o') := by
  subst he
  have hne : ∀ i k, nth L i = some k → k.live = true → β i ≠ l := fun i k hk hv e => by
    rcases m.lo i k hk hv with hh | hh
    · rw [e] at hh; exact hh hn
    · omega
  have hh : h l = none := by
    cases q : h l with
    | none => rfl
    | some o =>
      rcases m.fresh l (by rw [q]; simp) with hh | hh
      · exact absurd hn hh
      · omega
  refine ⟨⟨fun j o' hj => ?_, fun i k hk => sees_put (m.see.see i k hk) (hne i k hk)⟩, m.hole, m.inj, fun i k hk hv => by rw [World.putObj_size]; exact m.lt i k hk hv, fun i k hk hv => by rw [World.putObj_size]; exact m.lo i k hk hv,
    m.os, m.tape, m.output, by rw [World.putObj_size, World.putObj_size]; exact m.size, fun j hj hj' => ?_, fun j hj => by rw [World.putObj_size]; exact m.fresh j hj⟩
  · rw [World.putObj_heap_other (fun e => by rw [e, hh] at hj; cases hj)]
    exact m.see.hw j o' hj
  · rw [World.putObj_size] at hj
    by_cases e : j = l
    · subst e
      rw [World.putObj_heap_same hj, World.putObj_heap_same (Nat.lt_of_lt_of_le hj m.size)]
    · rw [World.putObj_heap_other e, World.putObj_heap_other e]; exact m.frame j hj hj'
theorem Mem.out (m : Mem h0 w0 β L h w) {l : Nat} (hl : l < w0.heap.size) (hn : h0 l = none) : h l = none := by
  cases q : h l with
  | none => rfl
  | some o =>
    rcases m.fresh l (by rw [q]; simp) with hh | hh
    · exact absurd hn hh
    · omega

/-- after a round -/
theorem ext_round {l : Nat} {o0 o1 o2 : Obj} (m : Mem h0 (w0.putObj l o1) β L h w) (hl : l < w0.heap.size) (hn : h0 l = none) : Ext (h0.put l o0) w0 (h.put l o2) (w.putObj l o2) := by
  have hs := m.size
  rw [World.putObj_size] at hs
  refine ⟨fun j o hj => ?_, m.os, m.tape, m.output, by rw [World.putObj_size]; exact hs, fun j hj hj' => ?_, fun j hj => ?_⟩
  · by_cases e : j = l
    · subst e; rw [Hp.put_same] at hj; rw [World.putObj_heap_same (Nat.lt_of_lt_of_le hl hs)]; exact hj
    · rw [Hp.put_ne _ _ e] at hj; rw [World.putObj_heap_other e]; exact m.see.hw j o hj
  · by_cases e : j = l
    · subst e; rw [Hp.put_same] at hj'; cases hj'
    · rw [Hp.put_ne _ _ e] at hj'
      rw [World.putObj_heap_other e, m.frame j (by rw [World.putObj_size]; exact hj) hj', World.putObj_heap_other e]
  · by_cases e : j = l
    · subst e; rw [Hp.put_same]; exact .inl (by simp)
    · rw [Hp.put_ne _ _ e] at hj ⊢
      rcases m.fresh j hj with hh | hh
      · exact .inl hh
      · rw [World.putObj_size] at hh; exact .inr hh

/-- the marks among the deferred calls -/
structure DOk (s0 : Nat) (h1 : Hp) (w1 : World) (ds : List Deferred) : Prop where
  size : s0 ≤ w1.heap.size
  each : ∀ d ∈ ds, ∃ D, d = { target := .collected D, args := #[] } ∧ s0 ≤ D ∧ D < w1.heap.size ∧ h1 D = none ∧ w1.heap[D]? = some (.deferred (some []))
  diff : ds.Pairwise (· ≠ ·)

def liftY (s0 : Nat) (rd : Bool) (ds : List Deferred) (h1 : Hp) (w1 : World) (n : Nat) (Q : Post) : Exit → Act → World → Prop := fun x a w =>
  ∃ h2 w2 ds2 β e L h a0, Base h1 w1 h2 w2 ∧ DOk s0 h2 w2 ds2 ∧ (rd = true → ds2 = ds ∧ h2 = h1 ∧ w2 = w1) ∧ Mem h2 w2 β L h w ∧ Rel n β L e a0 ∧ a = { a0 with defers := ds2 } ∧ OkL L ∧ Q x e L h

theorem liftY.trans {s0 : Nat} {rd : Bool} {ds2 : List Deferred} {h2 : Hp} {w2 : World} {Q Q' : Post} {x : Exit} (b : Base h1 w1 h2 w2) (hb : rd = true → ds2 = ds ∧ h2 = h1 ∧ w2 = w1) (hq : ∀ e L h, Q x e L h → Q' x e L h) (hl : liftY s0 rd ds2 h2 w2 n Q x a w) : liftY s0 rd ds h1 w1 n Q' x a w := by
  obtain ⟨h3, w3, ds3, β, e, L, h, a0, q1, q2, q3, q4, q5, q6, q7, q8⟩ := hl
  refine ⟨h3, w3, ds3, β, e, L, h, a0, b.trans q1, q2, fun hr => ?_, q4, q5, q6, q7, hq _ _ _ q8⟩
  obtain ⟨a1, a2, a3⟩ := hb hr
  obtain ⟨b1, b2, b3⟩ := q3 hr
  exact ⟨b1.trans a1, b2.trans a2, b3.trans a3⟩
theorem liftY.mk0 {s0 : Nat} {rd : Bool} {Q : Post} {x : Exit} (d : DOk s0 h1 w1 ds) (m : Mem h1 w1 β L h w) (r : Rel n β L e a) (hL : OkL L) (q : Q x e L h) : liftY s0 rd ds h1 w1 n Q x { a with defers := ds } w :=
  ⟨h1, w1, ds, β, e, L, h, a, Base.refl _ _, d, fun _ => ⟨rfl, rfl, rfl⟩, m, r, rfl, hL, q⟩

open Classical in
theorem Mem.rebase (m : Mem h0 w0 β L h w) : ∃ h1, Base h0 w0 h1 w ∧ Mem h1 w β L h w ∧ ∀ j, h1 j ≠ none → h j ≠ none ∨ ∃ i k, nth L i = some k ∧ k.live = true ∧ β i = j := by
  let S : Nat → Prop := fun j => h j ≠ none ∨ ∃ i k, nth L i = some k ∧ k.live = true ∧ β i = j
  have hS : ∀ j, S j → h0 j ≠ none ∨ w0.heap.size ≤ j := fun j hj => by
    rcases hj with hj | ⟨i, k, hk, hv, rfl⟩
    · exact m.fresh j hj
    · exact m.lo i k hk hv
  let h1 : Hp := fun j => if S j then some (.deferred none) else none
  have h1n : ∀ j, h1 j ≠ none ↔ S j := fun j => by
    show (if S j then some (Obj.deferred none) else none) ≠ none ↔ _
    by_cases hs : S j <;> simp [hs]
  refine ⟨h1, ⟨fun j hj => hS j ((h1n j).1 hj), m.os, m.tape, m.output, m.size, m.frame⟩, ⟨m.see, m.hole, m.inj, m.lt, fun i k hk hv => .inl ((h1n _).2 (.inr ⟨i, k, hk, hv, rfl⟩)), rfl, rfl, rfl, Nat.le_refl _, fun _ _ _ => rfl, fun j hj => .inl ((h1n j).2 (.inl hj))⟩, fun j hj => (h1n j).1 hj⟩

/-- The record's block leaves the heap and is written over. -/
theorem Mem.drop {l : Nat} {o o' : Obj} (m : Mem h0 w0 β L (h.put l o) w) (hn : h l = none) (h0n : h0 l ≠ none) : Mem h0 w0 β L h (w.putObj l o') := by
  have hne : ∀ i k, nth L i = some k → k.live = true → β i ≠ l := fun i k hk hv e => by
    have := m.hole i k hk hv
    rw [e, Hp.put_same] at this; cases this
  refine ⟨⟨fun j o' hj => ?_, fun i k hk => sees_put (m.see.see i k hk) (hne i k hk)⟩, fun i k hk hv => ?_, m.inj, fun i k hk hv => by rw [World.putObj_size]; exact m.lt i k hk hv, m.lo, m.os, m.tape, m.output, by rw [World.putObj_size]; exact m.size, fun j hj hj' => ?_, fun j hj => ?_⟩
  · have hjl : j ≠ l := fun e => by rw [e, hn] at hj; cases hj
    rw [World.putObj_heap_other hjl]
    exact m.see.hw j o' (by rw [Hp.put_ne _ _ hjl]; exact hj)
  · have := m.hole i k hk hv
    rwa [Hp.put_ne _ _ (hne i k hk hv)] at this
  · have hjl : j ≠ l := fun e => by rw [e] at hj'; exact h0n hj'
    rw [World.putObj_heap_other hjl]; exact m.frame j hj hj'
  · have hjl : j ≠ l := fun e => by rw [e] at hj; exact hj hn
    exact m.fresh j (by rw [Hp.put_ne _ _ hjl]; exact hj)

theorem heap_alloc_ne (w : World) (o : Obj) {j : Nat} (hj : j < w.heap.size) : (w.alloc o).heap[j]? = w.heap[j]? := by
  show (w.heap.push o)[j]? = _
  rw [Array.getElem?_push, if_neg (by omega)]

/-- what a jump is, as code -/
def jumpOf : Exit → Option Code
  | .exit id => some (.exit id)
  | .ret => some .ret
  | _ => none

abbrev RdOk (P : Program) (n : Nat) (sf : List Nat) (c : Code) : Prop := ∀ (l : Nat) (Q : Post) h1 w1 β e L h a w, Mem h1 w1 β L h w → Rel n β L e a → OkL L → wpIRY P n true (lower P sf c) Q e L h → c.wpIn (Fr (some l)) 0 P (liftY 0 true [] h1 w1 n Q) { a with defers := [] } w

/-- one round -/
theorem round_sound {sf : List Nat} {x y : Code} (ihx : RdOk P n sf x) (ihy : RdOk P n sf y) {p : Nat} (hp : p < n) {slots : List Nat} {vs : List Value} {tmps : Array Value} (hs : tmps.size = n) (hvs : slots.map (fun t => tmps.getD t undef) = vs)
    {J : List Int → Hp → Prop} {Jx : Exit → List Int → Hp → Prop} {pre : List Int} {z : Int} {fn : FuncId} {l D : Nat} (hl : h l = none)
    (rec_ : Go.Loop) (hrec : rec_ = { state := .ready, pending := none, fn := fn, tmps := tmps, params := #[p], assign := x, body := y, defers := D })
    (hr : ∀ e0, wpIRY P n true (lower P sf x) (fun x e L h => match x with
      | .normal => wpIRY P n true (lower P sf y) (fun ex _ L' h' => match ex with
        | .normal => Shift (fun _ h' => J (pre ++ [z]) h') L' h'
        | .exit id => Shift (fun _ h' => Jx (.exit id) (pre ++ [z]) h') L' h'
        | .ret => Shift (fun _ h' => Jx .ret (pre ++ [z]) h') L' h'
        | _ => False) e L h
      | _ => False) (upd (updL e0 slots (vs.map .v)) p (.v (.int .i64 z))) [] h) :
    Yd P l #[.int .i64 z] (h.put l (.loop rec_)) fun v H' => (v = .bool true ∧ ∃ hh, H' = hh.put l (.loop rec_) ∧ hh l = none ∧ J (pre ++ [z]) hh) ∨
      (v = .bool false ∧ ∃ ex c hh, jumpOf ex = some c ∧ H' = hh.put l (.loop { rec_ with state := .done, pending := some c }) ∧ hh l = none ∧ Jx ex (pre ++ [z]) hh) := by
  subst hrec
  intro w hw
  have hwl := hw l _ (Hp.put_same _ _ _)
  have hlt : l < w.heap.size := (Array.getElem?_eq_some_iff.1 hwl).1
  have hwh : HW h w := hw.mono (Hp.le_put hl)
  refine ⟨_, _, _, _, run_yield hwl rfl, ?_⟩
  have htm : ((#[p] : Array Nat).zip #[Value.int .i64 z]).foldl (fun tmps (t, a) => tmps.setIfInBounds t a) tmps = (({ tmps := tmps, defers := [] } : Act).put (some p) (.int .i64 z)).tmps := by
    simp [Act.put]
  refine roundIn_of_wpIn trivial ?_
  show Code.wpIn _ _ _ _ _ { tmps := ((#[p] : Array Nat).zip #[Value.int .i64 z]).foldl (fun tmps (t, a) => tmps.setIfInBounds t a) tmps, defers := [] } _
  rw [htm]
  -- the start
  have m0 : Mem h w (fun _ => 0) [] h w := ⟨⟨hwh, (fun i l hl => by cases hl)⟩, (fun i l hl => by cases hl), (fun i j l l' hl => by cases hl), (fun i l hl => by cases hl), (fun i l hl => by cases hl), rfl, rfl, rfl, Nat.le_refl _, (fun _ _ _ => rfl), (fun j hj => .inl hj)⟩
  have r0 : Rel n (fun _ => 0) [] (fun t => .v (tmps.getD t undef)) { tmps := tmps, defers := [] } := ⟨rfl, hs, fun t => rfl, fun t => trivial⟩
  have r1 := r0.forget (slots := slots) (xs := vs.map .v) (L' := []) (by rw [← hvs, List.map_map]; rfl) (by
    rw [List.all_eq_true]
    intro u hu
    obtain ⟨v, _, rfl⟩ := List.mem_map.1 hu
    rfl)
  have r2 := r1.put hp (x := .v (.int .i64 z)) trivial
  have hL0 : OkL [] := fun i cs ty hi => by cases hi
  refine wpIn_mono (ihx l _ h w _ _ [] h _ w m0 r2 hL0 (hr _)) ?_
  rintro ex a1 w1 ⟨h2, w2, ds2, β, e, L, h', a0, _, _, q3, m1, r1', rfl, hL1, hq⟩
  obtain ⟨e1, e2, e3⟩ := q3 rfl
  subst e1
  rw [e2, e3] at m1
  clear e2 e3
  cases ex with
  | normal =>
    simp only [Exit.then] at hq ⊢
    have hw1 := (m1.frame l hlt hl).trans hwl
    refine ⟨_, run_beginRound hw1 rfl, ?_⟩
    have m2 := m1.poke hlt hl (.loop { state := .busy, pending := none, fn := fn, tmps := tmps, params := #[p], assign := x, body := y, defers := D }) _ rfl
    refine wpIn_mono (ihy l _ _ _ β e L h' a0 _ m2 r1' hL1 hq) ?_
    rintro ex a2 w3 ⟨h4, w4, ds4, β3, e3, L3, h3, a3, _, _, q5, m3, r3, rfl, hL3, hq3⟩
    obtain ⟨e1, e2, e3⟩ := q5 rfl
    subst e1
    rw [e2, e3] at m3
    clear e2 e3
    have hw3 := (m3.frame l (by rw [World.putObj_size]; exact hlt) hl).trans (World.putObj_heap_same hlt)
    have fin : ∀ {K : Hp → Prop} (o2 : Obj), Shift (fun _ h => K h) L3 h3 → ∃ hh, K hh ∧ hh l = none ∧ Ext (h.put l (.loop { state := .ready, pending := none, fn := fn, tmps := tmps, params := #[p], assign := x, body := y, defers := D })) w (hh.put l o2) (w3.putObj l o2) := by
      intro K o2 hk
      obtain ⟨β5, L5, h5, k5, m5, _, _, _⟩ := shift_sound hk β3 m3 hL3
      exact ⟨h5, k5, m5.out (by rw [World.putObj_size]; exact hlt) hl, ext_round m5 hlt hl⟩
    cases ex with
    | normal =>
      obtain ⟨hh, k1, k2, k3⟩ := fin _ hq3
      exact ⟨_, _, run_endRound none hw3, _, _, rfl, .inl ⟨rfl, hh, rfl, k2, k1⟩, k3⟩
    | exit id =>
      obtain ⟨hh, k1, k2, k3⟩ := fin _ hq3
      exact ⟨_, _, run_endRound (some (.exit id)) hw3, _, _, rfl, .inr ⟨rfl, .exit id, _, hh, rfl, rfl, k2, k1⟩, k3⟩
    | ret =>
      obtain ⟨hh, k1, k2, k3⟩ := fin _ hq3
      exact ⟨_, _, run_endRound (some .ret) hw3, _, _, rfl, .inr ⟨rfl, .ret, _, hh, rfl, rfl, k2, k1⟩, k3⟩
    | goto t => exact hq3.elim
    | panic ch => exact hq3.elim
    | outgrown => exact hq3.elim
  | _ => exact hq.elim
end
end Go.Sx
