/- Range over a function: yields and rounds. Conditions: none. -/
import Derived.Test.YtndkgmgkbedepaaSx14
import Derived.RangeFuncSeq
import Derived.Sort.LoopGhostIn
namespace Go.Sx
open Go.RowKit
/-- The fence of everything, in a round's frame or not. -/
def Fr (ro : Option Nat) : Fence := { Fence.wide with round := ro }

section
variable {P : Program} {h0 : Hp} {w0 : World} {n : Nat} {β : Nat → Nat} {L : List LE} {h : Hp} {e : Env} {a : Act} {w : World} {ro : Option Nat} {ds : List Deferred}

theorem put_defers (a : Act) (d : Option Nat) (v : Value) : ({ a with defers := ds } : Act).put d v = { a.put d v with defers := ds } := by cases d <;> rfl
theorem put_defers' (a : Act) (d : Option Nat) (v : Value) : (a.put d v).defers = a.defers := by cases d <;> rfl

theorem calls_fr {f : FuncId} {args : Array Value} {k : Nat} {R : Ending → World → Prop} (h : Calls P f args w R) : CallsIn (Fr ro) k P f args w R := (callsIn_wide (n := k)).2 h

theorem wpIn_of_wp {o : Oper} {next next' : Act → World → Prop} {Q : Exit → Act → World → Prop} {Q' : Exit → Act → World → Prop}
    (h : o.wp P a w next Q) (hn : ∀ a w, next a w → a.defers = [] ∧ next' { a with defers := ds } w) (hQ : ∀ x a w, ¬ Q x a w) : o.wpIn (Fr ro) 0 P { a with defers := ds } w next' Q' := by
  refine ⟨fun _ _ => trivial, ?_⟩
  have he : ({ a with defers := ds } : Act).eval = a.eval := by funext x; cases x <;> rfl
  rw [he]
  by_cases hd : ∃ c, o.op = .defer c
  · exfalso
    obtain ⟨c, hc⟩ := hd
    unfold Oper.wp at h
    simp only [execOp, hc, Sem.run_bind] at h
    cases hq : (resolve a.eval c o.type).run P w with
    | ok d w' =>
      rw [hq] at h
      simp only [Result.andThen_ok, Sem.run_pure, Oper.upon_defer] at h
      have := (hn _ _ h).1
      rw [put_defers'] at this
      cases this
    | halt x w' =>
      rw [hq] at h
      cases x with
      | panic v => exact hQ _ _ _ h
      | _ => exact h
  · rw [Oper.semAt_eq _ _ _ (fun c hc => hd ⟨c, hc⟩)]
    unfold Oper.wp at h
    generalize (execOp a.eval o).run P w = r at h
    cases r with
    | ok x w' =>
      cases x with
      | value v =>
        rw [Oper.uponIn_value, put_defers]
        exact (hn _ _ h).2
      | skip =>
        rw [Oper.uponIn_skip, put_defers]
        exact (hn _ _ h).2
      | defer d =>
        have := (hn _ _ h).1
        rw [put_defers'] at this
        cases this
      | enter f args =>
        rw [Oper.uponIn_enter]
        refine ⟨fun hh => (by cases hh), calls_fr (Calls.mono h ?_)⟩
        intro ev w'' hw
        cases ev with
        | returned v =>
        show next' (({ a with defers := ds } : Act).put o.dst v) w''
        rw [put_defers]; exact (hn _ _ hw).2
        | panicked ch => exact (hQ _ _ _ hw).elim
        | outgrown => obtain ⟨_, _, hq⟩ := hw; exact (hQ _ _ _ hq).elim
      | row rw_ args =>
        rw [Oper.uponIn_row]
        refine ⟨fun hh => (by cases hh), fun c cs _ => ?_⟩
        obtain ⟨v, w'', hv, hs⟩ := h c cs
        exact ⟨v, w'', (show next' (({ a with defers := ds } : Act).put o.dst v) w'' by rw [put_defers]; exact (hn _ _ hv).2), stepsIn_wide.2 hs⟩
      | _ => exact h.elim
    | halt x w' =>
      cases x with
      | panic v => exact (hQ _ _ _ h).elim
      | _ => exact h.elim

/-! ### yields -/
def Yd (P : Program) (l : Nat) (args : Array Value) (h : Hp) (Q : Value → Hp → Prop) : Prop :=
  ∀ w, HW h w → YieldAt Fence.wide 0 P l args w fun ev w' => ∃ v h', ev = .returned v ∧ Q v h' ∧ Ext h w h' w'
inductive EvYd (P : Program) (l : Nat) (args : Array Value) (L : List LE) (h : Hp) (K : Value → List LE → Hp → Prop) : Prop
  | mk (Q : Value → Hp → Prop) (hc : Yd P l args h Q) (k : ∀ v h', Q v h' → K v L h')
  | mkS (Q : Value → Hp → Prop) (hc : Yd P l args h Q) (k : ∀ v h', Q v h' → Shift (K v) L h')
def wpYd (P : Program) (n : Nat) (l : Nat) (svs : List SV) (d : Option Nat) (e : Env) (L : List LE) (h : Hp) (K : KT) : Prop :=
  pubs 40 svs (fun L h => match rawArgs L svs with
    | some vs => Shift (fun L h => EvYd P l vs.toArray L h fun v L h' => putS n d (.v v) e L h' K) L h
    | none => False) L h
def wpIY (P : Program) (n : Nat) (o : IOp) (e : Env) (L : List LE) (h : Hp) (K : KT) : Prop :=
  match o.g, o.k with
  | none, .callv x args => (match x.get e with
    | .v (.func (.yield l) first _) => wpYd P n l (first.toList.map .v ++ args.map (Arg.get e)) o.d e L h K
    | _ => wpI P n o e L h K)
  | _, _ => wpI P n o e L h K
def wpOpsY (P : Program) (n : Nat) : List IOp → Env → List LE → Hp → KT → Prop
  | [], e, L, h, K => K e L h
  | o :: r, e, L, h, K => wpIY P n o e L h fun e L h => wpOpsY P n r e L h K

theorem lowKind_callv {o : Op} {X : Arg} {As : List Arg} (h : lowKind P o = .callv X As) : ∃ x args tys, o = .call { callee := .value x, args := args, argTypes := tys } ∧ X = lowArg x ∧ As = args.toList.map lowArg := by
  unfold lowKind at h
  repeat' split at h
  all_goals first
    | (cases h; done)
    | (unfold lowEq at h; split at h <;> (cases h; done))
    | (injection h with h1 h2
       rename_i c _ x _ hc
       obtain ⟨_, args, tys⟩ := c
       simp only at hc
       subst hc; subst h1; subst h2
       exact ⟨_, _, _, rfl, rfl, rfl⟩)
    | skip

theorem run_yield_op {o : Oper} {x : Operand} {args : Array Operand} {tys : Array TypeId} (hop : o.op = .call { callee := .value x, args := args, argTypes := tys }) {l : Nat} {first caps : Array Value} (hx : a.eval x = .func (.yield l) first caps) {vs : List Value} (hvs : first.toList ++ args.toList.map a.eval = vs) :
    (execOp a.eval o).run P w = (Instr.yield l vs.toArray).run P w := by
  have he : first ++ args.map a.eval = vs.toArray := by
    rw [← hvs]
    apply Array.ext'
    simp
  simp only [execOp, hop, resolve, Deferred.ofValue, hx, invoke, Sem.run_bind, Sem.run_pure, Result.andThen_ok]
  rw [he]

theorem wpYd_sound {o : Oper} {l : Nat} {svs : List SV} {K : KT} {next : Act → World → Prop} {Q : Exit → Act → World → Prop} (ho : Out h0 w0 n Any K fun a w => next { a with defers := ds } w)
    (m : Mem h0 w0 β L h w) (r : Rel n β L e a) (hL : OkL L) (hp : wpYd P n l svs o.dst e L h K) (hnd : ∀ c, o.op ≠ .defer c)
    (hrun : ∀ vs : List Value, svs.map (SV.c β) = vs → (execOp a.eval o).run P w = (Instr.yield l vs.toArray).run P w) : o.wpIn (Fr ro) 0 P { a with defers := ds } w next Q := by
  unfold wpYd at hp
  obtain ⟨L1, h1, k1, m1, hL1, ref1, _⟩ := pubs_sound svs _ _ _ m hL hp
  split at k1
  · rename_i vs hvs
    have hc := rawArgs_c m1.see svs vs hvs
    obtain ⟨β2, L2, h2, k2, m2, hL2, ref2, hβ2⟩ := shift_sound k1 β m1 hL1
    have r2 : Rel n β2 L2 e a := (r.agree (fun _ _ => rfl) ref1).agree hβ2 ref2
    refine ⟨fun _ _ => trivial, ?_⟩
    have he : ({ a with defers := ds } : Act).eval = a.eval := by funext x; cases x <;> rfl
    rw [he, Oper.semAt_eq _ _ _ hnd, hrun vs hc]
    have put : ∀ (v : Value) (β : Nat → Nat) (L : List LE) (h' : Hp) (w' : World), Mem h0 w0 β L h' w' → Rel n β L e a → OkL L → putS n o.dst (.v v) e L h' K → next (({ a with defers := ds } : Act).put o.dst v) w' := fun v β L h' w' m r hL hp => by
      rw [put_defers]
      exact putS_sound ho trivial m r hL (x := .v v) trivial hp
    cases k2 with
    | mk R hcall k =>
      obtain ⟨fn, tmps, assign, body, hy, hR⟩ := hcall w m2.see.hw
      rw [hy, Oper.uponIn_round]
      refine ⟨fun hh => (by cases hh), RoundIn.mono hR ?_⟩
      rintro ev w' ⟨v, h', rfl, hq, hx⟩
      exact put v β2 L2 h' w' (m2.ext hx) r2 hL2 (k v h' hq)
    | mkS R hcall k =>
      obtain ⟨fn, tmps, assign, body, hy, hR⟩ := hcall w m2.see.hw
      rw [hy, Oper.uponIn_round]
      refine ⟨fun hh => (by cases hh), RoundIn.mono hR ?_⟩
      rintro ev w' ⟨v, h', rfl, hq, hx⟩
      obtain ⟨β3, L3, h3, k3, m3, hL3, ref3, hβ3⟩ := shift_sound (k v h' hq) β2 (m2.ext hx) hL2
      exact put v β3 L3 h3 w' m3 (r2.agree hβ3 ref3) hL3 k3
  · exact k1.elim

theorem wpIY_sound {ops : Array Oper} {o : Oper} {K : KT} {next : Act → World → Prop} {Q : Exit → Act → World → Prop} (ho : Out h0 w0 n Any K fun a w => next { a with defers := ds } w)
    (m : Mem h0 w0 β L h w) (r : Rel n β L e a) (hL : OkL L) (hp : wpIY P n (lowOp P ops o) e L h K) :
    if Region.wanted o (yielded ops a.tmps) then o.wpIn (Fr ro) 0 P { a with defers := ds } w next Q else next (({ a with defers := ds } : Act).put o.dst undef) w := by
  have plain : wpI P n (lowOp P ops o) e L h K → if Region.wanted o (yielded ops a.tmps) then o.wpIn (Fr ro) 0 P { a with defers := ds } w next Q else next (({ a with defers := ds } : Act).put o.dst undef) w := by
    intro hp
    have := wpI_sound (next := fun a w => a.defers = [] ∧ next { a with defers := ds } w) (Q := fun _ _ _ => False) (fun β e L h a w _ m r hL hk => ⟨r.defers, ho β e L h a w trivial m r hL hk⟩) m r hL hp
    split at this
    · rename_i hw
      rw [if_pos hw]
      exact wpIn_of_wp this (fun _ _ hh => hh) fun _ _ _ => id
    · rename_i hw
      rw [if_neg hw, put_defers]
      exact this.2
  unfold wpIY at hp
  split at hp
  · rename_i x args hg hk
    split at hp
    · rename_i l first caps hx
      cases hgd : lowGuard ops o.guard with
      | some g =>
        have hlo : lowOp P ops o = { d := o.dst, g := g, k := lowKind P o.op } := by unfold lowOp; rw [hgd]
        rw [hlo] at hg hk hp
        simp only at hg hk hp
        subst hg
        obtain ⟨x', args', tys, hop, rfl, rfl⟩ := lowKind_callv hk
        have hgn : o.guard = none := by
          cases hgu : o.guard with
          | none => rfl
          | some jw =>
            obtain ⟨j, b⟩ := jw
            rw [hgu] at hgd
            simp only [lowGuard] at hgd
            split at hgd
            · split at hgd <;> cases hgd
            · cases hgd
        rw [if_pos (by simp [Region.wanted, hgn])]
        have hev := r.eval x'
        rw [hx] at hev
        refine wpYd_sound ho m r hL hp (by intro c hc; rw [hop] at hc; cases hc) fun vs hvs => ?_
        refine run_yield_op hop hev ?_
        rw [← hvs]
        simp only [List.map_append, List.map_map]
        congr 1
        · have hv : ∀ l : List Value, l.map (SV.c β ∘ SV.v) = l := fun l => by
            induction l with
            | nil => rfl
            | cons y l ih => rw [List.map_cons, ih]; rfl
          rw [hv]
        · exact List.map_congr_left fun y _ => r.eval y
      | none =>
        have hlo : lowOp P ops o = { d := o.dst, g := none, k := .bad } := by unfold lowOp; rw [hgd]
        rw [hlo] at hk
        cases hk
    · exact plain hp
  · exact plain hp

theorem wpOpsY_sound {ops : Array Oper} {Q : Exit → Act → World → Prop} {K : KT} (hQ : Out h0 w0 n Any K fun a w => Q .normal { a with defers := ds } w) : ∀ (l : List Oper) β e L h a w, Mem h0 w0 β L h w → Rel n β L e a → OkL L →
    wpOpsY P n (l.map (lowOp P ops)) e L h K → wpListIn (Fr ro) 0 P ops Q l { a with defers := ds } w
  | [], β, e, L, h, a, w, m, r, hL, hp => hQ β e L h a w trivial m r hL hp
  | o :: l, β, e, L, h, a, w, m, r, hL, hp => by
    refine wpListIn_step fun next hnext => ?_
    have := wpIY_sound (ro := ro) (ds := ds) (ops := ops) (next := next) (Q := Q) (K := fun e L h => wpOpsY P n (l.map (lowOp P ops)) e L h K) (fun β e L h a w _ m r hL hk => hnext _ w (wpOpsY_sound hQ l β e L h a w m r hL hk)) m r hL hp
    split at this
    · rename_i hw
      have hw' : Region.wanted o (yielded ops ({ a with defers := ds } : Act).tmps) = true := hw
      rw [if_pos hw']
      exact this
    · rename_i hw
      have hw' : ¬ Region.wanted o (yielded ops ({ a with defers := ds } : Act).tmps) = true := hw
      rw [if_neg hw']
      exact ⟨fun _ _ => trivial, this⟩
end
end Go.Sx
