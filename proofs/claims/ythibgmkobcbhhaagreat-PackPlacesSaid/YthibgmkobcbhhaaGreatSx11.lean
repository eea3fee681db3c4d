/- Lists of operations: what the rules say is what the model does. Conditions: none. -/
import Derived.Test.YthibgmkobcbhhaaGreatSx10b
namespace Go.Sx
open Go.RowKit
def wpI (P : Program) (n : Nat) (o : IOp) (e : Env) (L : List LE) (h : Hp) (K : KT) : Prop :=
  match o.g with
  | none => wpK P n o.k o.d e L h K
  | some (t, want) => (match e t with
    | .v (.bool b) => (match want with
      | true => br b (wpK P n o.k o.d (upd e t (.v (.bool true))) L h K) (putS n o.d (.v undef) (upd e t (.v (.bool false))) L h K)
      | false => br b (putS n o.d (.v undef) (upd e t (.v (.bool true))) L h K) (wpK P n o.k o.d (upd e t (.v (.bool false))) L h K))
    | .v (.tuple _) => putS n o.d (.v undef) e L h K
    | _ => False)

def wpOps (P : Program) (n : Nat) : List IOp → Env → List LE → Hp → KT → Prop
  | [], e, L, h, K => K e L h
  | o :: r, e, L, h, K => wpI P n o e L h fun e L h => wpOps P n r e L h K


/-! ### soundness -/
section
variable {P : Program} {h0 : Hp} {w0 : World} {n : Nat} {β : Nat → Nat} {L : List LE} {h : Hp} {e : Env} {a : Act} {w : World}

theorem upd_self {e : Env} {t : Nat} {x : SV} (hx : e t = x) : upd e t x = e := by
  funext i
  unfold upd
  cases hb : Nat.beq i t with
  | true => rw [Nat.eq_of_beq_eq_true hb, hx]; rfl
  | false => rfl

theorem yielded_of (r : Rel n β L e a) {ops : Array Oper} {j t : Nat} {oj : Oper} (hj : ops[j]? = some oj) (hd : oj.dst = some t) :
    (∀ b, e t = .v (.bool b) → yielded ops a.tmps j = some b) ∧ (∀ vs, e t = .v (.tuple vs) → yielded ops a.tmps j = none) := by
  have he := r.env t
  rw [Array.getD_eq_getD_getElem?] at he
  constructor
  · intro b hb
    rw [hb] at he
    simp only [yielded, hj, hd, Option.bind_some]
    cases hq : a.tmps[t]? with
    | none => rw [hq] at he; simp [SV.c, SV.c1, undef] at he
    | some v => rw [hq] at he; simp [SV.c, SV.c1] at he; subst he; rfl
  · intro vs hb
    rw [hb] at he
    simp only [yielded, hj, hd, Option.bind_some]
    cases hq : a.tmps[t]? with
    | none => rfl
    | some v => rw [hq] at he; simp [SV.c, SV.c1] at he; subst he; rfl

theorem wpI_sound {ops : Array Oper} {o : Oper} {K : KT} {next : Act → World → Prop} {Q : Exit → Act → World → Prop} (ho : Out h0 w0 n Any K next)
    (m : Mem h0 w0 β L h w) (r : Rel n β L e a) (hL : OkL L) (hp : wpI P n (lowOp P ops o) e L h K) :
    if Region.wanted o (yielded ops a.tmps) then o.wp P a w next Q else next (a.put o.dst undef) w := by
  unfold lowOp at hp
  split at hp
  · rename_i g hg
    cases hgd : o.guard with
    | none =>
      rw [hgd] at hg
      injection hg with hg
      subst hg
      simp only [wpI] at hp
      rw [if_pos (by simp [Region.wanted, hgd])]
      exact exec_op ho m r hL hp
    | some jw =>
      obtain ⟨j, want⟩ := jw
      rw [hgd] at hg
      simp only [lowGuard] at hg
      split at hg
      · rename_i oj hj
        split at hg
        · rename_i t ht
          injection hg with hg
          subst hg
          obtain ⟨y1, y2⟩ := yielded_of r hj ht
          simp only [wpI] at hp
          split at hp
          · rename_i b hb
            have hy := y1 b hb
            cases want <;> cases b <;> simp only [br] at hp
            · rw [upd_self hb] at hp
              rw [if_pos (by simp [Region.wanted, hgd, hy])]
              exact exec_op ho m r hL hp
            · rw [upd_self hb] at hp
              rw [if_neg (by simp [Region.wanted, hgd, hy])]
              exact putS_sound ho trivial m r hL (x := .v undef) trivial hp
            · rw [upd_self hb] at hp
              rw [if_neg (by simp [Region.wanted, hgd, hy])]
              exact putS_sound ho trivial m r hL (x := .v undef) trivial hp
            · rw [upd_self hb] at hp
              rw [if_pos (by simp [Region.wanted, hgd, hy])]
              exact exec_op ho m r hL hp
          · rename_i vs hb
            have hy := y2 vs hb
            rw [if_neg (by simp [Region.wanted, hgd, hy])]
            exact putS_sound ho trivial m r hL (x := .v undef) trivial hp
          · exact hp.elim
        · cases hg
      · cases hg
  · exact hp.elim

theorem wpOps_sound {ops : Array Oper} {Q : Exit → Act → World → Prop} {K : KT} (hQ : Out h0 w0 n Any K (Q .normal)) : ∀ (l : List Oper) β e L h a w, Mem h0 w0 β L h w → Rel n β L e a → OkL L →
    wpOps P n (l.map (lowOp P ops)) e L h K → wpList P ops Q l a w
  | [], β, e, L, h, a, w, m, r, hL, hp => hQ β e L h a w trivial m r hL hp
  | o :: l, β, e, L, h, a, w, m, r, hL, hp => by
    refine wpList_step fun next hnext => ?_
    refine wpI_sound (next := next) (K := fun e L h => wpOps P n (l.map (lowOp P ops)) e L h K) ?_ m r hL hp
    intro β e L h a w _ m r hL hk
    exact hnext a w (wpOps_sound hQ l β e L h a w m r hL hk)
end
end Go.Sx
