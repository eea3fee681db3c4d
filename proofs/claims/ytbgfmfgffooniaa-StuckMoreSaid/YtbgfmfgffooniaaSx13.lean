/- Code, loops and whole functions: what the rules say is what the model does. Conditions: none. -/
import Derived.Test.YtbgfmfgffooniaaSx12
import Derived.Deep.LoopGhost
import Derived.Scope
namespace Go.Sx
open Go.RowKit
abbrev Post := Exit → Env → List LE → Hp → Prop
def setA (e : Env) (c : Arg) (b : Bool) : Env := match c with
  | .t t => upd e t (.v (.bool b))
  | _ => e

def ok1B (L : List LE) : SV → Bool
  | .p i _ | .s i _ _ _ | .m i => (match nth L i with | some (.row ..) => false | some _ => true | none => false)
  | _ => true
def okB (L : List LE) : SV → Bool
  | .a xs => xs.all (ok1B L)
  | x => ok1B L x
def okLB (L : List LE) : List LE → Bool
  | [] => true
  | .own cs _ :: r => cs.all (ok1B L) && okLB L r
  | _ :: r => okLB L r

inductive EvLoop (B : Post → Env → List LE → Hp → Prop) (Q : Post) (e : Env) (L : List LE) (h : Hp) : Prop
  | mk (X : Type) (slots : List Nat) (vals : X → List SV) (Ls : X → List LE) (R : X → Hp → Prop) (μ : X → Nat) (x0 : X)
      (hok : ∀ x, ((vals x).all (okB (Ls x)) && okLB (Ls x) (Ls x)) = true)
      (h0 : R x0 h) (he : slots.map e = vals x0) (hL : L.take (Ls x0).length = Ls x0)
      (round : ∀ x e h, R x h → B (fun ex e' L' h' => match ex with
        | .normal => ∃ x', slots.map e' = vals x' ∧ L'.take (Ls x').length = Ls x' ∧ R x' h' ∧ μ x' < μ x
        | ex => Q ex e' L' h') (updL e slots (vals x)) (Ls x) h)

/-- Ways that meet again: what holds where they meet. -/
inductive EvCut (B : Post → Env → List LE → Hp → Prop) (C : Env → List LE → Hp → Prop) (Q : Post) (e : Env) (L : List LE) (h : Hp) : Prop
  | go (k : B (fun ex e' L' h' => match ex with | .normal => C e' L' h' | ex => Q ex e' L' h') e L h)
  | cut (X : Type) (slots : List Nat) (vals : X → List SV) (Ls : X → List LE) (R : X → Hp → Prop)
      (hok : ∀ x, ((vals x).all (okB (Ls x)) && okLB (Ls x) (Ls x)) = true)
      (k : B (fun ex e' L' h' => match ex with | .normal => ∃ x', slots.map e' = vals x' ∧ L'.take (Ls x').length = Ls x' ∧ R x' h' | ex => Q ex e' L' h') e L h)
      (rest : ∀ x e h, R x h → C (updL e slots (vals x)) (Ls x) h)

def wpIR (P : Program) (n : Nat) : IR → Post → Env → List LE → Hp → Prop
  | .skip, Q, e, L, h => Q .normal e L h
  | .reg ops, Q, e, L, h => wpOps P n ops e L h (Q .normal)
  | .odd ops, Q, e, L, h => wpOdd P n ops e L h (Q .normal)
  | .seq a b, Q, e, L, h => wpIR P n a (fun x e L h => match x with | .normal => wpIR P n b Q e L h | x => Q x e L h) e L h
  | .cond c x y, Q, e, L, h => (match c.get e with
    | .v (.bool b) => br b (wpIR P n x Q (setA e c true) L h) (wpIR P n y Q (setA e c false) L h)
    | _ => False)
  | .block id b, Q, e, L, h => wpIR P n b (fun x e L h => match x with | .exit j => bif Nat.beq j id then Q .normal e L h else Q (.exit j) e L h | x => Q x e L h) e L h
  | .loop b, Q, e, L, h => EvLoop (fun Q e L h => wpIR P n b Q e L h) Q e L h
  | .exit id, Q, e, L, h => Q (.exit id) e L h
  | .label, Q, e, L, h => Q .normal e L h
  | .ret, Q, e, L, h => Q .ret e L h
  | .scope b, Q, e, L, h => wpIR P n b (fun x e L h => match x with | .goto _ => False | x => Q x e L h) e L h
  | _, _, _, _, _ => False

/-! ### soundness -/
section
variable {P : Program} {h0 : Hp} {w0 : World} {n : Nat} {β : Nat → Nat} {L : List LE} {h : Hp} {e : Env} {a : Act} {w : World}

def lift (h0 : Hp) (w0 : World) (n : Nat) (Q : Post) : Exit → Act → World → Prop := fun x a w => ∃ β e L h, Mem h0 w0 β L h w ∧ Rel n β L e a ∧ OkL L ∧ Q x e L h

theorem ok1B_ok {x : SV} (hx : ok1B L x = true) : x.ok1 L := by
  have key : ∀ i, (match nth L i with | some (LE.row ..) => false | some _ => true | none => false) = true → refOk L i := fun i hi => by
    split at hi
    · cases hi
    · rename_i l hne hl
      refine ⟨l, hl, ?_⟩
      cases l <;> first | rfl | exact absurd rfl (hne _ _ _ _ _ _)
    · cases hi
  cases x <;> first | trivial | exact key _ hx
theorem okB_ok {x : SV} (hx : okB L x = true) : x.ok L := by
  cases x with
  | a xs => exact fun y hy => ok1B_ok (List.all_eq_true.1 hx y hy)
  | v y => trivial
  | p i o => exact ok1B_ok (x := .p i o) hx
  | s i o l c => exact ok1B_ok (x := .s i o l c) hx
  | m i => exact ok1B_ok (x := .m i) hx
theorem okLB_ok : ∀ (r : List LE), okLB L r = true → ∀ cs ty, LE.own cs ty ∈ r → ∀ x ∈ cs, x.ok1 L
  | [], _, cs, ty, hm, _, _ => by cases hm
  | l :: r, hr, cs, ty, hm, x, hx => by
    cases hm with
    | head =>
      simp only [okLB, Bool.and_eq_true] at hr
      exact ok1B_ok (List.all_eq_true.1 hr.1 x hx)
    | tail _ hm =>
      refine okLB_ok r ?_ cs ty hm x hx
      cases l <;> simp only [okLB, Bool.and_eq_true] at hr <;> first | exact hr.2 | exact hr
theorem okL_of (hL : okLB L L = true) : OkL L := fun i cs ty hi x hx => okLB_ok L hL cs ty (by rw [nth_eq] at hi; exact List.mem_of_getElem? hi) x hx

theorem Mem.trim (m : Mem h0 w0 β L h w) (k : Nat) : Mem h0 w0 β (L.take k) h w := by
  have hold : ∀ i l, nth (L.take k) i = some l → nth L i = some l := fun i l hl => by
    rw [nth_eq, List.getElem?_take] at hl
    split at hl
    · rw [nth_eq]; exact hl
    · cases hl
  exact ⟨⟨m.see.hw, fun i l hl => m.see.see i l (hold i l hl)⟩, fun i l hl => m.hole i l (hold i l hl), fun i j l l' hl hl' => m.inj i j l l' (hold i l hl) (hold j l' hl'), fun i l hl => m.lt i l (hold i l hl),
    fun i l hl => m.lo i l (hold i l hl), m.os, m.tape, m.output, m.size, m.frame, m.fresh⟩

theorem updL_get (e0 e : Env) : ∀ (slots : List Nat) (t : Nat), updL e0 slots (slots.map e) t = e t ∨ updL e0 slots (slots.map e) t = e0 t
  | [], t => .inr rfl
  | d :: ds, t => by
    simp only [List.map_cons, updL]
    rcases updL_get (upd e0 d (e d)) e ds t with hh | hh
    · exact .inl hh
    · rw [hh]
      unfold upd
      cases hb : Nat.beq t d with
      | true => rw [Nat.eq_of_beq_eq_true hb]; exact .inl rfl
      | false => exact .inr rfl
theorem updL_ok {L' : List LE} (e0 : Env) (h0 : ∀ t, (e0 t).ok L') : ∀ (slots : List Nat) (xs : List SV) (_ : ∀ x ∈ xs, x.ok L') (t : Nat), (updL e0 slots xs t).ok L'
  | [], xs, _, t => by cases xs <;> exact h0 t
  | d :: ds, [], _, t => h0 t
  | d :: ds, x :: xs, hx, t => by
    simp only [updL]
    refine updL_ok (upd e0 d x) (fun t => ?_) ds xs (fun y hy => hx y (List.mem_cons_of_mem _ hy)) t
    unfold upd
    cases Nat.beq t d with
    | true => exact hx x (List.mem_cons_self ..)
    | false => exact h0 t

/-- A frame where only some slots are known. -/
theorem Rel.forget (r : Rel n β L e a) {slots : List Nat} {xs : List SV} (hx : slots.map e = xs) {L' : List LE} (hok : xs.all (okB L') = true) : Rel n β L' (updL (fun t => .v (a.tmps.getD t undef)) slots xs) a := by
  refine ⟨r.defers, r.size, fun t => ?_, fun t => updL_ok (fun t => .v (a.tmps.getD t undef)) (fun _ => trivial) slots xs (fun x hx => okB_ok (List.all_eq_true.1 hok x hx)) t⟩
  subst hx
  rcases updL_get (fun t => .v (a.tmps.getD t undef)) e slots t with hh | hh <;> rw [hh]
  · exact r.env t
  · rfl

theorem wpIR_sound (hmix : P.follows .mixedOrders = true) : ∀ (c : Code) (Q : Post) β e L h a w, Mem h0 w0 β L h w → Rel n β L e a → OkL L → wpIR P n (lower P c) Q e L h → c.wp P (lift h0 w0 n Q) a w := by
  intro c
  induction c with
  | skip => exact fun Q β e L h a w m r hL hp => wp_skip ⟨β, e, L, h, m, r, hL, hp⟩
  | region id ops d =>
    intro Q β e L h a w m r hL hp
    cases d with
    | false =>
      refine wp_region_list ?_
      exact wpOps_sound (K := Q .normal) (fun β e L h a w _ m r hL hk => ⟨β, e, L, h, m, r, hL, hk⟩) ops.toList β e L h a w m r hL hp
    | true =>
      simp only [lower] at hp
      split at hp
      · rename_i ho
        exact wp_region_odd (K := Q .normal) hmix ho (fun β e L h a w _ m r hL hk => ⟨β, e, L, h, m, r, hL, hk⟩) m r hL hp
      · exact hp.elim
  | seq x y ihx ihy =>
    intro Q β e L h a w m r hL hp
    refine wp_seq (wp_mono (ihx _ β e L h a w m r hL hp) ?_)
    rintro ex a' w' ⟨β', e', L', h', m', r', hL', hq⟩
    cases ex with
    | normal => exact ihy Q β' e' L' h' a' w' m' r' hL' hq
    | _ => exact ⟨β', e', L', h', m', r', hL', hq⟩
  | cond c x y ihx ihy =>
    intro Q β e L h a w m r hL hp
    simp only [lower, wpIR] at hp
    split at hp
    · rename_i b hb
      have hc := r.eval c
      rw [hb] at hc
      have hset : setA e (lowArg c) b = e := by
        cases c with
        | tmp t => exact upd_self hb
        | _ => rfl
      cases b with
      | true =>
        simp only [br] at hp
        rw [hset] at hp
        exact wp_cond_true hc (ihx Q β e L h a w m r hL hp)
      | false =>
        simp only [br] at hp
        rw [hset] at hp
        exact wp_cond_false hc (ihy Q β e L h a w m r hL hp)
    · exact hp.elim
  | block id b ih =>
    intro Q β e L h a w m r hL hp
    refine wp_block (wp_mono (ih _ β e L h a w m r hL hp) ?_)
    rintro ex a' w' ⟨β', e', L', h', m', r', hL', hq⟩
    cases ex with
    | exit j =>
      simp only [Exit.inBlock]
      simp only at hq
      cases hb : Nat.beq j id with
      | true =>
        rw [hb] at hq
        rw [if_pos (Nat.eq_of_beq_eq_true hb)]
        exact ⟨β', e', L', h', m', r', hL', hq⟩
      | false =>
        rw [hb] at hq
        rw [if_neg (fun ee => by subst ee; rw [Nat.beq_refl] at hb; cases hb)]
        exact ⟨β', e', L', h', m', r', hL', hq⟩
    | _ => exact ⟨β', e', L', h', m', r', hL', hq⟩
  | loop b ih =>
    intro Q β e L h a w m r hL hp
    simp only [lower, wpIR] at hp
    obtain ⟨X, slots, vals, Ls, R, μ, x0, hok, hR0, he, hLs, round⟩ := hp
    have hok1 := fun x => (Bool.and_eq_true _ _).mp (hok x)
    refine wp_loop_ghost (fun k a w => ∃ x β e h, μ x = k ∧ R x h ∧ Mem h0 w0 β (Ls x) h w ∧ Rel n β (Ls x) (updL e slots (vals x)) a) (μ x0) ⟨x0, β, _, h, rfl, hR0, by rw [← hLs]; exact m.trim _, r.forget he (hok1 x0).1⟩ ?_
    rintro k a w ⟨x, β, e, h, rfl, hR, m, r⟩
    refine wp_mono (ih _ β _ _ h a w m r (okL_of (hok1 x).2) (round x e h hR)) ?_
    rintro ex a' w' ⟨β', e', L', h', m', r', hL', hq⟩
    cases ex with
    | normal =>
      obtain ⟨x', q1, q2, q3, q4⟩ := hq
      exact ⟨μ x', q4, x', β', _, h', rfl, q3, by rw [← q2]; exact m'.trim _, r'.forget q1 (hok1 x').1⟩
    | _ => exact ⟨β', e', L', h', m', r', hL', hq⟩
  | rangeFunc f ps x y _ _ => intro Q β e L h a w m r hL hp; exact hp.elim
  | exit id => exact fun Q β e L h a w m r hL hp => wp_exit ⟨β, e, L, h, m, r, hL, hp⟩
  | scope b ih =>
    intro Q β e L h a w m r hL hp
    refine wp_scope_straight (wp_mono (ih _ β e L h a w m r hL hp) ?_)
    rintro ex a' w' ⟨β', e', L', h', m', r', hL', hq⟩
    cases ex with
    | goto l => exact hq.elim
    | _ => exact ⟨β', e', L', h', m', r', hL', hq⟩
  | label l => exact fun Q β e L h a w m r hL hp => wp_label ⟨β, e, L, h, m, r, hL, hp⟩
  | goto l => intro Q β e L h a w m r hL hp; exact hp.elim
  | ret => exact fun Q β e L h a w m r hL hp => wp_ret ⟨β, e, L, h, m, r, hL, hp⟩
  | refuse why => intro Q β e L h a w m r hL hp; exact hp.elim
end
end Go.Sx
