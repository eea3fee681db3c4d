/- Layer 18: a list of firings gone through, with a step function that gathers rows. Conditions: none. -/
import Derived.Test.YtfdcoiiaiihdnaaN18D
namespace Go.Sx
open Go.Proofs
theorem st_mono {hF hG : Hp} {gt gf : Nat} {t f : List Int} (x : hF.le hG) : (st hF gt gf t f).le (st hG gt gf t f) := fun j o e => by
  unfold st at e ⊢
  by_cases e2 : j = gf
  · subst e2; rw [Hp.put_same] at e ⊢; exact e
  · rw [Hp.put_ne _ _ e2] at e ⊢
    by_cases e1 : j = gt
    · subst e1; rw [Hp.put_same] at e ⊢; exact e
    · rw [Hp.put_ne _ _ e1] at e ⊢; exact x j o e
theorem le_none {a b : Hp} (x : a.le b) {j : Nat} (h : b j = none) : a j = none := by
  cases e : a j with
  | none => rfl
  | some o => rw [x j o e] at h; cases h
theorem Disj.mono {a b X : Hp} (x : a.le b) (d : Disj b X) : Disj a X := fun j h => le_none x (d j h)
/-- what the loop of 'over' keeps -/
structure Ov (h0 hF hG X : Hp) (b gt gf N : Nat) (arcs : List Arc) (f : List Int) (k : Nat) : Prop where
  at_ : At h0 hF b gt gf N arcs f k
  le : hF.le hG
  sub : X.le hG
  dis : Disj hF X
  fT : hG gt = none
  fF : hG gf = none
theorem Ov.atG {h0 hF hG X : Hp} {b gt gf N k : Nat} {arcs : List Arc} {f : List Int} (o : Ov h0 hF hG X b gt gf N arcs f k) : At h0 hG b gt gf N arcs f k :=
  ⟨Hp.le_trans o.at_.le o.le, o.at_.web.mono o.le o.fT o.fF, o.at_.good⟩
theorem Ov.free {h0 hF hG X : Hp} {b gt gf N k : Nat} {arcs : List Arc} {f : List Int} (o : Ov h0 hF hG X b gt gf N arcs f k) : hF gt = none ∧ hF gf = none ∧ gt ≠ gf := by
  obtain ⟨Aa, Ai, Ao, ca, ci, co, I, O, w0⟩ := o.at_.web.ex
  exact ⟨w0.freeT, w0.freeF, w0.ne⟩
theorem Ov.step {h0 hF hG X h1 h2 X' : Hp} {b gt gf N k g : Nat} {arcs : List Arc} {f t : List Int} (o : Ov h0 hF hG X b gt gf N arcs f k) (hc : (st hG gt gf t f).le h1) (hg : st hG gt gf t f g = none) (hX : X'.le h2)
    (hk : ∀ K, K.le h1 → Disj K X → K g = none → K.le h2 ∧ Disj K X') : ∃ hG2, h2 = st hG2 gt gf t f ∧ Ov h0 hF hG2 X' b gt gf N arcs f k := by
  obtain ⟨f1, f2, hne⟩ := o.free
  have xT : X gt = none := le_none o.sub o.fT
  have xF : X gf = none := le_none o.sub o.fF
  have kd : Disj (st hF gt gf t f) X := fun j hj => by
    have e1 : j ≠ gt := fun q => hj (q ▸ xT)
    have e2 : j ≠ gf := fun q => hj (q ▸ xF)
    rw [st_other e1 e2]; exact o.dis j hj
  obtain ⟨k1, k2⟩ := hk (st hF gt gf t f) (Hp.le_trans (st_mono o.le) hc) kd (le_none (st_mono o.le) hg)
  obtain ⟨hG2, e, l, q1, q2⟩ := st_grow hne f1 f2 k1
  refine ⟨hG2, e, o.at_, l, fun j ob ej => ?_, Disj.mono (Hp.le_st f1 f2) k2, q1, q2⟩
  have h3 := hX j ob ej
  have hj : st hF gt gf t f j = none := k2 j (by rw [ej]; simp)
  have e1 : j ≠ gt := fun q => by subst q; rw [st_gt hne] at hj; cases hj
  have e2 : j ≠ gf := fun q => by subst q; rw [st_gf] at hj; cases hj
  rw [e, st_other e1 e2] at h3; exact h3
theorem Ov.fire {h0 hF hG X hH : Hp} {b gt gf N k : Nat} {arcs : List Arc} {f f2 : List Int} (o : Ov h0 hF hG X b gt gf N arcs f k) (a : At hG hH b gt gf N arcs f2 (k + 1)) : Ov h0 hF hH X b gt gf N arcs f2 (k + 1) := by
  obtain ⟨Aa, Ai, Ao, ca, ci, co, I, O, w0⟩ := a.web.ex
  exact ⟨⟨o.at_.le, o.at_.web, a.good⟩, Hp.le_trans o.le a.le, Hp.le_trans o.sub a.le, o.dis, w0.freeT, w0.freeF⟩
def OverOk (h : Hp) (N : Int) (arcs : List Arc) (zs : List Int) (z : Value) (R : List (List Int) → Value → Hp → Prop) (r : Value) (h' : Hp) : Prop :=
  h.le h' ∧ ((along N arcs zs).1 ≠ 0 → r = .tuple #[z, iv (along N arcs zs).1]) ∧ ((along N arcs zs).1 = 0 → ∃ v X, r = .tuple #[v, iv 0] ∧ R (along N arcs zs).2 v X ∧ X.le h' ∧ Disj h X)
theorem along_bad {N : Int} {arcs : List Arc} {zs : List Int} (h : chk N arcs ≠ 0) : along N arcs zs = (chk N arcs, []) := by rw [along, if_neg h]
theorem along_long {N : Int} {arcs : List Arc} {zs : List Int} (h : chk N arcs = 0) (h2 : 2048 < zs.length) : along N arcs zs = (2, []) := by rw [along, if_pos h, if_pos h2]
theorem along_ok {N : Nat} {arcs : List Arc} {zs : List Int} (h : chk N arcs = 0) (h2 : ¬ 2048 < zs.length) : along N arcs zs = ((alongR N arcs zs (List.replicate N 0)).1, toksOf arcs (List.replicate N 0) :: (alongR N arcs zs (List.replicate N 0)).2) := by rw [along, if_pos h, if_neg h2]; rfl
end Go.Sx
