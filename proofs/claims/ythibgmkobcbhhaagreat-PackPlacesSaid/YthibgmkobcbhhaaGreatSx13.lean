/- Code, loops and whole functions: what the rules say is what the model does. Conditions: none. -/
import Derived.Test.YthibgmkobcbhhaaGreatSx12
import Derived.Deep.LoopGhost
import Derived.Scope
namespace Go.Sx
open Go.RowKit
abbrev Post := Exit → Env → List LE → Hp → Prop
def setA (e : Env) (c : Arg) (b : Bool) : Env := match c with
  | .t t => upd e t (.v (.bool b))
  | _ => e

def ok1B (L : List LE) : SV → Bool
  | .p i _ | .s i _ _ _ | .m i => (match nth L i with | some (.row ..) => false | some _ => true | none => false)
  | _ => true
def okB (L : List LE) : SV → Bool
  | .a xs => xs.all (ok1B L)
  | x => ok1B L x
def okLB (L : List LE) : List LE → Bool
  | [] => true
  | .own cs _ :: r => cs.all (ok1B L) && okLB L r
  | _ :: r => okLB L r

def ix (perm : List Nat) (i : Nat) : Nat := match nth perm i with | some j => j | none => 0
def ren1 (perm : List Nat) : SV → SV
  | .v x => .v x
  | .p i off => .p (ix perm i) off
  | .s i off len cap => .s (ix perm i) off len cap
  | .m i => .m (ix perm i)
  | .a _ => .v undef
def renS (perm : List Nat) : SV → SV
  | .a xs => .a (xs.map (ren1 perm))
  | x => ren1 perm x
def renLE (perm : List Nat) : LE → LE
  | .own cs ty => .own (cs.map (ren1 perm)) ty
  | l => l
def pickL (L : List LE) : List Nat → Option (List LE)
  | [] => some []
  | i :: r => match nth L i, pickL L r with | some l, some k => some (l :: k) | _, _ => none
def diffB : List Nat → Bool
  | [] => true
  | i :: r => !memB r i && diffB r

inductive EvLoop0 (B : Post → Env → List LE → Hp → Prop) (Q : Post) (e : Env) (L : List LE) (h : Hp) : Prop
  | mk (X : Type) (slots : List Nat) (vals : X → List SV) (Ls : X → List LE) (R : X → Hp → Prop) (μ : X → Nat) (x0 : X)
      (hok : ∀ x, ((vals x).all (okB (Ls x)) && okLB (Ls x) (Ls x)) = true)
      (h0 : R x0 h) (he : slots.map e = vals x0) (hL : L.take (Ls x0).length = Ls x0)
      (round : ∀ x e h, R x h → B (fun ex e' L' h' => match ex with
        | .normal => ∃ x', slots.map e' = vals x' ∧ L'.take (Ls x').length = Ls x' ∧ R x' h' ∧ μ x' < μ x
        | ex => Q ex e' L' h') (updL e slots (vals x)) (Ls x) h)
  | mkP (perm : List Nat) (X : Type) (slots : List Nat) (vals : X → List SV) (Ls : X → List LE) (R : X → Hp → Prop) (μ : X → Nat) (x0 : X)
      (hok : ∀ x, ((vals x).all (okB (Ls x)) && okLB (Ls x) (Ls x)) = true)
      (h0 : R x0 h) (he : slots.map e = (vals x0).map (renS perm)) (hd : diffB perm = true) (hL : pickL L perm = some ((Ls x0).map (renLE perm)))
      (round : ∀ x e h, R x h → B (fun ex e' L' h' => match ex with
        | .normal => ∃ x', slots.map e' = vals x' ∧ L'.take (Ls x').length = Ls x' ∧ R x' h' ∧ μ x' < μ x
        | ex => Q ex e' L' h') (updL e slots (vals x)) (Ls x) h)

  | mkS (perm : List Nat) (X : Type) (slots : List Nat) (vals : X → List SV) (Ls : X → List LE) (R : X → Hp → Prop) (μ : X → Nat) (x0 : X)
      (hok : ∀ x, ((vals x).all (okB (Ls x)) && okLB (Ls x) (Ls x)) = true)
      (h0 : R x0 h) (he : slots.map e = (vals x0).map (renS perm)) (hd : diffB perm = true) (hL : pickL L perm = some ((Ls x0).map (renLE perm)))
      (round : ∀ x e h, R x h → Shift (fun L h => B (fun ex e' L' h' => match ex with
        | .normal => Shift (fun L' h' => ∃ x', slots.map e' = vals x' ∧ L'.take (Ls x').length = Ls x' ∧ R x' h' ∧ μ x' < μ x) L' h'
        | ex => Q ex e' L' h') (updL e slots (vals x)) L h) (Ls x) h)

inductive EvLoop (B : Post → Env → List LE → Hp → Prop) (Q : Post) (e : Env) (L : List LE) (h : Hp) : Prop
  | mk (X : Type) (slots : List Nat) (vals : X → List SV) (Ls : X → List LE) (R : X → Hp → Prop) (μ : X → Nat) (x0 : X)
      (hok : ∀ x, ((vals x).all (okB (Ls x)) && okLB (Ls x) (Ls x)) = true)
      (h0 : R x0 h) (he : slots.map e = vals x0) (hL : L.take (Ls x0).length = Ls x0)
      (round : ∀ x e h, R x h → B (fun ex e' L' h' => match ex with
        | .normal => ∃ x', slots.map e' = vals x' ∧ L'.take (Ls x').length = Ls x' ∧ R x' h' ∧ μ x' < μ x
        | ex => Q ex e' L' h') (updL e slots (vals x)) (Ls x) h)
  | mkP (perm : List Nat) (X : Type) (slots : List Nat) (vals : X → List SV) (Ls : X → List LE) (R : X → Hp → Prop) (μ : X → Nat) (x0 : X)
      (hok : ∀ x, ((vals x).all (okB (Ls x)) && okLB (Ls x) (Ls x)) = true)
      (h0 : R x0 h) (he : slots.map e = (vals x0).map (renS perm)) (hd : diffB perm = true) (hL : pickL L perm = some ((Ls x0).map (renLE perm)))
      (round : ∀ x e h, R x h → B (fun ex e' L' h' => match ex with
        | .normal => ∃ x', slots.map e' = vals x' ∧ L'.take (Ls x').length = Ls x' ∧ R x' h' ∧ μ x' < μ x
        | ex => Q ex e' L' h') (updL e slots (vals x)) (Ls x) h)

  | mkS (perm : List Nat) (X : Type) (slots : List Nat) (vals : X → List SV) (Ls : X → List LE) (R : X → Hp → Prop) (μ : X → Nat) (x0 : X)
      (hok : ∀ x, ((vals x).all (okB (Ls x)) && okLB (Ls x) (Ls x)) = true)
      (h0 : R x0 h) (he : slots.map e = (vals x0).map (renS perm)) (hd : diffB perm = true) (hL : pickL L perm = some ((Ls x0).map (renLE perm)))
      (round : ∀ x e h, R x h → Shift (fun L h => B (fun ex e' L' h' => match ex with
        | .normal => Shift (fun L' h' => ∃ x', slots.map e' = vals x' ∧ L'.take (Ls x').length = Ls x' ∧ R x' h' ∧ μ x' < μ x) L' h'
        | ex => Q ex e' L' h') (updL e slots (vals x)) L h) (Ls x) h)
  | pubd (xs : List SV) (x : pubs 40 xs (fun L h => EvLoop0 B Q e L h) L h)
  | shf (x : Shift (fun L h => EvLoop0 B Q e L h) L h)
theorem pubs_mono (xs : List SV) {K K' : List LE → Hp → Prop} (hK : ∀ L h, K L h → K' L h) : ∀ (fu : Nat) (L : List LE) (h : Hp), pubs fu xs K L h → pubs fu xs K' L h
  | 0, _, _, hp => hp.elim
  | fu + 1, L, h, hp => by
    simp only [pubs] at hp ⊢
    split at hp
    · exact hK _ _ hp
    · split at hp
      · exact hp.elim
      · split at hp
        · split at hp
          · obtain ⟨k⟩ := hp
            refine ⟨fun b hb => ?_⟩
            have := k b hb
            rw [forceL_eq] at this ⊢
            exact pubs_mono xs hK fu _ _ this
          · exact hp.elim
        · exact hp.elim
theorem EvLoop.norm {B : Post → Env → List LE → Hp → Prop} {Q : Post} {e : Env} {L : List LE} {h : Hp} (x : EvLoop B Q e L h) : ∃ xs, pubs 40 xs (fun L h => Shift (fun L h => EvLoop0 B Q e L h) L h) L h := by
  have nil : EvLoop0 B Q e L h → ∃ xs, pubs 40 xs (fun L h => Shift (fun L h => EvLoop0 B Q e L h) L h) L h := fun y => ⟨[], .done y⟩
  cases x with
  | mk X slots vals Ls R μ x0 hok hR0 he hLs round => exact nil (.mk X slots vals Ls R μ x0 hok hR0 he hLs round)
  | mkP perm X slots vals Ls R μ x0 hok hR0 he hd hLs round => exact nil (.mkP perm X slots vals Ls R μ x0 hok hR0 he hd hLs round)
  | mkS perm X slots vals Ls R μ x0 hok hR0 he hd hLs round => exact nil (.mkS perm X slots vals Ls R μ x0 hok hR0 he hd hLs round)
  | pubd xs y => exact ⟨xs, pubs_mono xs (fun _ _ z => .done z) _ _ _ y⟩
  | shf y => exact ⟨[], y⟩

/-- Ways that meet again: what holds where they meet. -/
inductive EvCut (B : Post → Env → List LE → Hp → Prop) (C : Env → List LE → Hp → Prop) (Q : Post) (e : Env) (L : List LE) (h : Hp) : Prop
  | go (k : B (fun ex e' L' h' => match ex with | .normal => C e' L' h' | ex => Q ex e' L' h') e L h)
  | cut (X : Type) (slots : List Nat) (vals : X → List SV) (Ls : X → List LE) (R : X → Hp → Prop)
      (hok : ∀ x, ((vals x).all (okB (Ls x)) && okLB (Ls x) (Ls x)) = true)
      (k : B (fun ex e' L' h' => match ex with | .normal => ∃ x', slots.map e' = vals x' ∧ L'.take (Ls x').length = Ls x' ∧ R x' h' | ex => Q ex e' L' h') e L h)
      (rest : ∀ x e h, R x h → C (updL e slots (vals x)) (Ls x) h)

def wpIR (P : Program) (n : Nat) : IR → Post → Env → List LE → Hp → Prop
  | .skip, Q, e, L, h => Q .normal e L h
  | .reg ops, Q, e, L, h => wpOps P n ops e L h (Q .normal)
  | .odd ops, Q, e, L, h => wpOdd P n ops e L h (Q .normal)
  | .seq a b, Q, e, L, h => wpIR P n a (fun x e L h => match x with | .normal => wpIR P n b Q e L h | x => Q x e L h) e L h
  | .cond c x y, Q, e, L, h => (match c.get e with
    | .v (.bool b) => br b (wpIR P n x Q (setA e c true) L h) (wpIR P n y Q (setA e c false) L h)
    | _ => False)
  | .block id b, Q, e, L, h => wpIR P n b (fun x e L h => match x with | .exit j => bif Nat.beq j id then Q .normal e L h else Q (.exit j) e L h | x => Q x e L h) e L h
  | .loop b, Q, e, L, h => EvLoop (fun Q e L h => wpIR P n b Q e L h) Q e L h
  | .exit id, Q, e, L, h => Q (.exit id) e L h
  | .label, Q, e, L, h => Q .normal e L h
  | .ret, Q, e, L, h => Q .ret e L h
  | .scope b, Q, e, L, h => wpIR P n b (fun x e L h => match x with | .goto _ => False | x => Q x e L h) e L h
  | _, _, _, _, _ => False

/-! ### soundness -/
section
variable {P : Program} {h0 : Hp} {w0 : World} {n : Nat} {β : Nat → Nat} {L : List LE} {h : Hp} {e : Env} {a : Act} {w : World}

def lift (h0 : Hp) (w0 : World) (n : Nat) (Q : Post) : Exit → Act → World → Prop := fun x a w => ∃ β e L h, Mem h0 w0 β L h w ∧ Rel n β L e a ∧ OkL L ∧ Q x e L h

theorem ok1B_ok {x : SV} (hx : ok1B L x = true) : x.ok1 L := by
  have key : ∀ i, (match nth L i with | some (LE.row ..) => false | some _ => true | none => false) = true → refOk L i := fun i hi => by
    split at hi
    · cases hi
    · rename_i l hne hl
      refine ⟨l, hl, ?_⟩
      cases l <;> first | rfl | exact absurd rfl (hne _ _ _ _ _ _)
    · cases hi
  cases x <;> first | trivial | exact key _ hx
theorem okB_ok {x : SV} (hx : okB L x = true) : x.ok L := by
  cases x with
  | a xs => exact fun y hy => ok1B_ok (List.all_eq_true.1 hx y hy)
  | v y => trivial
  | p i o => exact ok1B_ok (x := .p i o) hx
  | s i o l c => exact ok1B_ok (x := .s i o l c) hx
  | m i => exact ok1B_ok (x := .m i) hx
theorem okLB_ok : ∀ (r : List LE), okLB L r = true → ∀ cs ty, LE.own cs ty ∈ r → ∀ x ∈ cs, x.ok1 L
  | [], _, cs, ty, hm, _, _ => by cases hm
  | l :: r, hr, cs, ty, hm, x, hx => by
    cases hm with
    | head =>
      simp only [okLB, Bool.and_eq_true] at hr
      exact ok1B_ok (List.all_eq_true.1 hr.1 x hx)
    | tail _ hm =>
      refine okLB_ok r ?_ cs ty hm x hx
      cases l <;> simp only [okLB, Bool.and_eq_true] at hr <;> first | exact hr.2 | exact hr
theorem okL_of (hL : okLB L L = true) : OkL L := fun i cs ty hi x hx => okLB_ok L hL cs ty (by rw [nth_eq] at hi; exact List.mem_of_getElem? hi) x hx

theorem Mem.trim (m : Mem h0 w0 β L h w) (k : Nat) : Mem h0 w0 β (L.take k) h w := by
  have hold : ∀ i l, nth (L.take k) i = some l → nth L i = some l := fun i l hl => by
    rw [nth_eq, List.getElem?_take] at hl
    split at hl
    · rw [nth_eq]; exact hl
    · cases hl
  exact ⟨⟨m.see.hw, fun i l hl => m.see.see i l (hold i l hl)⟩, fun i l hl => m.hole i l (hold i l hl), fun i j l l' hl hl' => m.inj i j l l' (hold i l hl) (hold j l' hl'), fun i l hl => m.lt i l (hold i l hl),
    fun i l hl => m.lo i l (hold i l hl), m.os, m.tape, m.output, m.size, m.frame, m.fresh⟩

theorem updL_get (e0 e : Env) : ∀ (slots : List Nat) (t : Nat), updL e0 slots (slots.map e) t = e t ∨ updL e0 slots (slots.map e) t = e0 t
  | [], t => .inr rfl
  | d :: ds, t => by
    simp only [List.map_cons, updL]
    rcases updL_get (upd e0 d (e d)) e ds t with hh | hh
    · exact .inl hh
    · rw [hh]
      unfold upd
      cases hb : Nat.beq t d with
      | true => rw [Nat.eq_of_beq_eq_true hb]; exact .inl rfl
      | false => exact .inr rfl
theorem updL_ok {L' : List LE} (e0 : Env) (h0 : ∀ t, (e0 t).ok L') : ∀ (slots : List Nat) (xs : List SV) (_ : ∀ x ∈ xs, x.ok L') (t : Nat), (updL e0 slots xs t).ok L'
  | [], xs, _, t => by cases xs <;> exact h0 t
  | d :: ds, [], _, t => h0 t
  | d :: ds, x :: xs, hx, t => by
    simp only [updL]
    refine updL_ok (upd e0 d x) (fun t => ?_) ds xs (fun y hy => hx y (List.mem_cons_of_mem _ hy)) t
    unfold upd
    cases Nat.beq t d with
    | true => exact hx x (List.mem_cons_self ..)
    | false => exact h0 t

/-- A frame where only some slots are known. -/
theorem Rel.forget (r : Rel n β L e a) {slots : List Nat} {xs : List SV} (hx : slots.map e = xs) {L' : List LE} (hok : xs.all (okB L') = true) : Rel n β L' (updL (fun t => .v (a.tmps.getD t undef)) slots xs) a := by
  refine ⟨r.defers, r.size, fun t => ?_, fun t => updL_ok (fun t => .v (a.tmps.getD t undef)) (fun _ => trivial) slots xs (fun x hx => okB_ok (List.all_eq_true.1 hok x hx)) t⟩
  subst hx
  rcases updL_get (fun t => .v (a.tmps.getD t undef)) e slots t with hh | hh <;> rw [hh]
  · exact r.env t
  · rfl

theorem c1_ren (β : Nat → Nat) (perm : List Nat) {x : SV} (hx : ∀ xs, x ≠ .a xs) : (ren1 perm x).c1 β = x.c1 fun i => β (ix perm i) := by
  cases x <;> first | rfl | exact absurd rfl (hx _)
theorem c1_ren' (β : Nat → Nat) (perm : List Nat) (x : SV) : (ren1 perm x).c1 β = x.c1 fun i => β (ix perm i) := by
  cases x <;> rfl
theorem c_ren (β : Nat → Nat) (perm : List Nat) (x : SV) : (renS perm x).c β = x.c fun i => β (ix perm i) := by
  cases x with
  | a xs =>
    show Value.agg _ = Value.agg _
    rw [List.map_map]
    congr 2
    exact List.map_congr_left fun y _ => c1_ren' β perm y
  | _ => rfl
theorem pickL_at {L : List LE} : ∀ {perm : List Nat} {K : List LE}, pickL L perm = some K → ∀ i l, nth K i = some l → ∃ j, nth perm i = some j ∧ nth L j = some l
  | [], K, h, i, l, hl => by injection h with h; subst h; cases hl
  | p :: perm, K, h, i, l, hl => by
    simp only [pickL] at h
    split at h
    · rename_i q k h1 h2
      injection h with h; subst h
      cases i with
      | zero => injection hl with hl; subst hl; exact ⟨p, rfl, h1⟩
      | succ i => exact pickL_at h2 i l hl
    · cases h
theorem diffB_inj : ∀ {perm : List Nat}, diffB perm = true → ∀ i j a, nth perm i = some a → nth perm j = some a → i = j
  | [], _, i, j, a, h, _ => by cases h
  | p :: perm, hd, i, j, a, h1, h2 => by
    simp only [diffB, Bool.and_eq_true, Bool.not_eq_true'] at hd
    have no : ∀ k, nth perm k = some p → False := fun k hk => by
      have : memB perm p = true := memB_iff.2 (by rw [nth_eq] at hk; exact List.mem_of_getElem? hk)
      rw [hd.1] at this; cases this
    cases i with
    | zero =>
      cases j with
      | zero => rfl
      | succ j => injection h1 with h1; subst h1; exact (no j h2).elim
    | succ i =>
      cases j with
      | zero => injection h2 with h2; subst h2; exact (no i h1).elim
      | succ j => rw [diffB_inj hd.2 i j a h1 h2]
theorem live_ren (perm : List Nat) (l : LE) : (renLE perm l).live = l.live := by cases l <;> rfl
theorem Mem.perm (m : Mem h0 w0 β L h w) {perm : List Nat} {K : List LE} (hd : diffB perm = true) (hp : pickL L perm = some (K.map (renLE perm))) : Mem h0 w0 (fun i => β (ix perm i)) K h w := by
  have at_ : ∀ i l, nth K i = some l → ∃ j, nth perm i = some j ∧ ix perm i = j ∧ nth L j = some (renLE perm l) := fun i l hl => by
    obtain ⟨j, h1, h2⟩ := pickL_at hp i (renLE perm l) (by rw [nth_eq] at hl ⊢; rw [List.getElem?_map, hl]; rfl)
    exact ⟨j, h1, by simp only [ix, h1], h2⟩
  refine ⟨⟨m.see.hw, fun i l hl => ?_⟩, fun i l hl hv => ?_, fun i j l l' hl hl' hv hv' he => ?_, fun i l hl hv => ?_, fun i l hl hv => ?_, m.os, m.tape, m.output, m.size, m.frame, m.fresh⟩
  · obtain ⟨j, h1, h2, h3⟩ := at_ i l hl
    have hs := m.see.see j _ h3
    cases l with
    | own cs ty =>
      simp only [renLE, LE.sees, List.map_map] at hs ⊢
      rw [h2, hs]
      congr 3
      exact List.map_congr_left fun y _ => c1_ren' β perm y
    | pub b => simp only [renLE, LE.sees] at hs ⊢; rw [h2]; exact hs
    | row => simp only [renLE, LE.sees] at hs ⊢; rw [h2]; exact hs
    | map f k => simp only [renLE, LE.sees] at hs ⊢; rw [h2]; exact hs
    | gone => trivial
  · obtain ⟨j, h1, h2, h3⟩ := at_ i l hl
    show h (β (ix perm i)) = none
    rw [h2]; exact m.hole j _ h3 (by rw [live_ren]; exact hv)
  · obtain ⟨a, h1, h2, h3⟩ := at_ i l hl
    obtain ⟨b, g1, g2, g3⟩ := at_ j l' hl'
    simp only [h2, g2] at he
    have := m.inj a b _ _ h3 g3 (by rw [live_ren]; exact hv) (by rw [live_ren]; exact hv') he
    subst this
    exact diffB_inj hd i j a h1 g1
  · obtain ⟨j, h1, h2, h3⟩ := at_ i l hl
    show β (ix perm i) < _
    rw [h2]; exact m.lt j _ h3 (by rw [live_ren]; exact hv)
  · obtain ⟨j, h1, h2, h3⟩ := at_ i l hl
    show h0 (β (ix perm i)) ≠ none ∨ _
    rw [h2]; exact m.lo j _ h3 (by rw [live_ren]; exact hv)
theorem updL_ren {perm : List Nat} {e : Env} : ∀ (slots : List Nat) (xs : List SV) (e0 : Env), slots.map e = xs.map (renS perm) → (∀ t, (e t).c β = a.tmps.getD t undef) → (∀ t, (e0 t).c (fun i => β (ix perm i)) = a.tmps.getD t undef) →
    ∀ t, (updL e0 slots xs t).c (fun i => β (ix perm i)) = a.tmps.getD t undef
  | [], xs, e0, _, _, h0, t => by cases xs <;> exact h0 t
  | d :: ds, [], e0, hx, _, h0, t => h0 t
  | d :: ds, x :: xs, e0, hx, hr, h0, t => by
    simp only [List.map_cons, List.cons.injEq] at hx
    simp only [updL]
    refine updL_ren ds xs (upd e0 d x) hx.2 hr (fun t => ?_) t
    unfold upd
    cases hb : Nat.beq t d with
    | true =>
      rw [Nat.eq_of_beq_eq_true hb, ← hr d, hx.1, c_ren]
      rfl
    | false => exact h0 t
theorem Rel.perm (r : Rel n β L e a) {perm : List Nat} {slots : List Nat} {xs : List SV} (hx : slots.map e = xs.map (renS perm)) {L' : List LE} (hok : xs.all (okB L') = true) : Rel n (fun i => β (ix perm i)) L' (updL (fun t => .v (a.tmps.getD t undef)) slots xs) a :=
  ⟨r.defers, r.size, fun t => (updL_ren slots xs (fun t => .v (a.tmps.getD t undef)) hx (fun t => (r.env t).symm) (fun _ => rfl) t).symm, fun t => updL_ok (fun t => .v (a.tmps.getD t undef)) (fun _ => trivial) slots xs (fun x hx => okB_ok (List.all_eq_true.1 hok x hx)) t⟩

theorem wpIR_sound {sf : List Nat} (hmix : P.follows .mixedOrders = true) : ∀ (c : Code) (Q : Post) β e L h a w, Mem h0 w0 β L h w → Rel n β L e a → OkL L → wpIR P n (lower P sf c) Q e L h → c.wp P (lift h0 w0 n Q) a w := by
  intro c
  induction c with
  | skip => exact fun Q β e L h a w m r hL hp => wp_skip ⟨β, e, L, h, m, r, hL, hp⟩
  | region id ops d =>
    intro Q β e L h a w m r hL hp
    cases d with
    | false =>
      refine wp_region_list ?_
      exact wpOps_sound (K := Q .normal) (fun β e L h a w _ m r hL hk => ⟨β, e, L, h, m, r, hL, hk⟩) ops.toList β e L h a w m r hL hp
    | true =>
      simp only [lower] at hp
      split at hp
      · rename_i ho
        exact wp_region_odd (K := Q .normal) hmix ho (fun β e L h a w _ m r hL hk => ⟨β, e, L, h, m, r, hL, hk⟩) m r hL hp
      · exact hp.elim
  | seq x y ihx ihy =>
    intro Q β e L h a w m r hL hp
    refine wp_seq (wp_mono (ihx _ β e L h a w m r hL hp) ?_)
    rintro ex a' w' ⟨β', e', L', h', m', r', hL', hq⟩
    cases ex with
    | normal => exact ihy Q β' e' L' h' a' w' m' r' hL' hq
    | _ => exact ⟨β', e', L', h', m', r', hL', hq⟩
  | cond c x y ihx ihy =>
    intro Q β e L h a w m r hL hp
    simp only [lower, wpIR] at hp
    split at hp
    · rename_i b hb
      have hc := r.eval c
      rw [hb] at hc
      have hset : setA e (lowArg c) b = e := by
        cases c with
        | tmp t => exact upd_self hb
        | _ => rfl
      cases b with
      | true =>
        simp only [br] at hp
        rw [hset] at hp
        exact wp_cond_true hc (ihx Q β e L h a w m r hL hp)
      | false =>
        simp only [br] at hp
        rw [hset] at hp
        exact wp_cond_false hc (ihy Q β e L h a w m r hL hp)
    · exact hp.elim
  | block id b ih =>
    intro Q β e L h a w m r hL hp
    refine wp_block (wp_mono (ih _ β e L h a w m r hL hp) ?_)
    rintro ex a' w' ⟨β', e', L', h', m', r', hL', hq⟩
    cases ex with
    | exit j =>
      simp only [Exit.inBlock]
      simp only at hq
      cases hb : Nat.beq j id with
      | true =>
        rw [hb] at hq
        rw [if_pos (Nat.eq_of_beq_eq_true hb)]
        exact ⟨β', e', L', h', m', r', hL', hq⟩
      | false =>
        rw [hb] at hq
        rw [if_neg (fun ee => by subst ee; rw [Nat.beq_refl] at hb; cases hb)]
        exact ⟨β', e', L', h', m', r', hL', hq⟩
    | _ => exact ⟨β', e', L', h', m', r', hL', hq⟩
  | loop b ih =>
    intro Q β e L h a w m r hL hp
    simp only [lower, wpIR] at hp
    obtain ⟨xs0, hp⟩ := EvLoop.norm hp
    obtain ⟨L, h, hp, m, hL, href0, _⟩ := pubs_sound xs0 _ _ _ m hL hp
    have r := r.agree (fun _ _ => rfl) href0
    obtain ⟨β, L, h, hp, m, hL, href1, hβ1⟩ := shift_sound hp β m hL
    have r := r.agree hβ1 href1
    have goS : ∀ (X : Type) (slots : List Nat) (vals : X → List SV) (Ls : X → List LE) (R : X → Hp → Prop) (μ : X → Nat) (x0 : X) (hok : ∀ x, ((vals x).all (okB (Ls x)) && okLB (Ls x) (Ls x)) = true),
        (∃ β e, R x0 h ∧ Mem h0 w0 β (Ls x0) h w ∧ Rel n β (Ls x0) (updL e slots (vals x0)) a) →
        (∀ x e h, R x h → Shift (fun L h => wpIR P n (lower P sf b) (fun ex e' L' h' => match ex with
        | .normal => Shift (fun L' h' => ∃ x', slots.map e' = vals x' ∧ L'.take (Ls x').length = Ls x' ∧ R x' h' ∧ μ x' < μ x) L' h'
        | ex => Q ex e' L' h') (updL e slots (vals x)) L h) (Ls x) h) → (Code.loop b).wp P (lift h0 w0 n Q) a w := by
      intro X slots vals Ls R μ x0 hok hst round
      have hok1 := fun x => (Bool.and_eq_true _ _).mp (hok x)
      obtain ⟨β, e, hR0, m, r⟩ := hst
      refine wp_loop_ghost (fun k a w => ∃ x β e h, μ x = k ∧ R x h ∧ Mem h0 w0 β (Ls x) h w ∧ Rel n β (Ls x) (updL e slots (vals x)) a) (μ x0) ⟨x0, β, e, h, rfl, hR0, m, r⟩ ?_
      rintro k a w ⟨x, β, e, h, rfl, hR, m, r⟩
      obtain ⟨β1, L1, h1, k1, m1, hL1, ref1, hβ1⟩ := shift_sound (round x e h hR) β m (okL_of (hok1 x).2)
      refine wp_mono (ih _ β1 _ _ h1 a w m1 (r.agree hβ1 ref1) hL1 k1) ?_
      rintro ex a' w' ⟨β', e', L', h', m', r', hL', hq⟩
      cases ex with
      | normal =>
        obtain ⟨β2, L2, h2, ⟨x', q1, q2, q3, q4⟩, m2, hL2, ref2, hβ2⟩ := shift_sound hq β' m' hL'
        exact ⟨μ x', q4, x', β2, _, h2, rfl, q3, by rw [← q2]; exact m2.trim _, (r'.agree hβ2 ref2).forget q1 (hok1 x').1⟩
      | _ => exact ⟨β', e', L', h', m', r', hL', hq⟩
    have go : ∀ (X : Type) (slots : List Nat) (vals : X → List SV) (Ls : X → List LE) (R : X → Hp → Prop) (μ : X → Nat) (x0 : X) (hok : ∀ x, ((vals x).all (okB (Ls x)) && okLB (Ls x) (Ls x)) = true),
        (∃ β e, R x0 h ∧ Mem h0 w0 β (Ls x0) h w ∧ Rel n β (Ls x0) (updL e slots (vals x0)) a) →
        (∀ x e h, R x h → wpIR P n (lower P sf b) (fun ex e' L' h' => match ex with
        | .normal => ∃ x', slots.map e' = vals x' ∧ L'.take (Ls x').length = Ls x' ∧ R x' h' ∧ μ x' < μ x
        | ex => Q ex e' L' h') (updL e slots (vals x)) (Ls x) h) → (Code.loop b).wp P (lift h0 w0 n Q) a w := by
      intro X slots vals Ls R μ x0 hok hst round
      have hok1 := fun x => (Bool.and_eq_true _ _).mp (hok x)
      obtain ⟨β, e, hR0, m, r⟩ := hst
      refine wp_loop_ghost (fun k a w => ∃ x β e h, μ x = k ∧ R x h ∧ Mem h0 w0 β (Ls x) h w ∧ Rel n β (Ls x) (updL e slots (vals x)) a) (μ x0) ⟨x0, β, e, h, rfl, hR0, m, r⟩ ?_
      rintro k a w ⟨x, β, e, h, rfl, hR, m, r⟩
      refine wp_mono (ih _ β _ _ h a w m r (okL_of (hok1 x).2) (round x e h hR)) ?_
      rintro ex a' w' ⟨β', e', L', h', m', r', hL', hq⟩
      cases ex with
      | normal =>
        obtain ⟨x', q1, q2, q3, q4⟩ := hq
        exact ⟨μ x', q4, x', β', _, h', rfl, q3, by rw [← q2]; exact m'.trim _, r'.forget q1 (hok1 x').1⟩
      | _ => exact ⟨β', e', L', h', m', r', hL', hq⟩
    cases hp with
    | mk X slots vals Ls R μ x0 hok hR0 he hLs round =>
      exact go X slots vals Ls R μ x0 hok ⟨β, _, hR0, by rw [← hLs]; exact m.trim _, r.forget he ((Bool.and_eq_true _ _).mp (hok x0)).1⟩ round
    | mkP perm X slots vals Ls R μ x0 hok hR0 he hd hLs round =>
      exact go X slots vals Ls R μ x0 hok ⟨_, _, hR0, m.perm hd hLs, r.perm he ((Bool.and_eq_true _ _).mp (hok x0)).1⟩ round
    | mkS perm X slots vals Ls R μ x0 hok hR0 he hd hLs round =>
      exact goS X slots vals Ls R μ x0 hok ⟨_, _, hR0, m.perm hd hLs, r.perm he ((Bool.and_eq_true _ _).mp (hok x0)).1⟩ round
  | rangeFunc f ps x y _ _ => intro Q β e L h a w m r hL hp; exact hp.elim
  | exit id => exact fun Q β e L h a w m r hL hp => wp_exit ⟨β, e, L, h, m, r, hL, hp⟩
  | scope b ih =>
    intro Q β e L h a w m r hL hp
    refine wp_scope_straight (wp_mono (ih _ β e L h a w m r hL hp) ?_)
    rintro ex a' w' ⟨β', e', L', h', m', r', hL', hq⟩
    cases ex with
    | goto l => exact hq.elim
    | _ => exact ⟨β', e', L', h', m', r', hL', hq⟩
  | label l => exact fun Q β e L h a w m r hL hp => wp_label ⟨β, e, L, h, m, r, hL, hp⟩
  | goto l => intro Q β e L h a w m r hL hp; exact hp.elim
  | ret => exact fun Q β e L h a w m r hL hp => wp_ret ⟨β, e, L, h, m, r, hL, hp⟩
  | refuse why => intro Q β e L h a w m r hL hp; exact hp.elim
end
end Go.Sx
