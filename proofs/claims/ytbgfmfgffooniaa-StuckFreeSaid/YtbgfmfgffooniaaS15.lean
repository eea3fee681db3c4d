/- Layer 14: one node fires; how often each has. Conditions: none. -/
import Derived.Test.YtbgfmfgffooniaaS14
import Derived.Test.YtbgfmfgffooniaaC7
namespace Go.Sx
open Go.Proofs
theorem st_other {hF : Hp} {gt gf j : Nat} {t f : List Int} (h1 : j ≠ gt) (h2 : j ≠ gf) : st hF gt gf t f j = hF j := by
  unfold st; rw [Hp.put_ne _ _ h2, Hp.put_ne _ _ h1]
/-- A state of a net: how often its nodes have fired. -/
structure At (h0 hG : Hp) (b gt gf N : Nat) (arcs : List Arc) (f : List Int) (T : Nat) : Prop where
  le : h0.le hG
  web : Web hG b gt gf N arcs
  good : Good N arcs f T
theorem At.grow {h0 hG h' : Hp} {b gt gf N T : Nat} {arcs : List Arc} {f : List Int} {t : List Int} (a : At h0 hG b gt gf N arcs f T) (x : (st hG gt gf t f).le h') : ∃ hH, h' = st hH gt gf t f ∧ At h0 hH b gt gf N arcs f T := by
  obtain ⟨Aa, Ai, Ao, ca, ci, co, I, O, w0⟩ := a.web.ex
  obtain ⟨hH, e, hle, h1, h2⟩ := st_grow w0.ne w0.freeT w0.freeF x
  exact ⟨hH, e, Hp.le_trans a.le hle, a.web.mono hle h1 h2, a.good⟩
theorem At.all {h0 hG : Hp} {b gt gf N T : Nat} {arcs : List Arc} {f t : List Int} (a : At h0 hG b gt gf N arcs f T) : h0.le (st hG gt gf t f) := by
  obtain ⟨Aa, Ai, Ao, ca, ci, co, I, O, w0⟩ := a.web.ex
  exact Hp.le_trans a.le (Hp.le_st w0.freeT w0.freeF)
theorem fireOne {h0 hG : Hp} {b gt gf N T bk : Nat} {arcs : List Arc} {f : List Int} (hs : chk N arcs = 0) (a : At h0 hG b gt gf N arcs f T) (hT : T + 1 ≤ 70368744177664) (z : Int) (hb : st hG gt gf (toksOf arcs f) f bk = none) :
    Fn Try.prog 17 #[ptr b, .slice (some ⟨bk, 0, none⟩) 1 1] ((st hG gt gf (toksOf arcs f) f).put bk (.cells #[iv z] 3 (0, 0))) fun _ h' => ∃ hH, h' = st hH gt gf (toksOf arcs (fireRun N arcs [z] f).2) (fireRun N arcs [z] f).2 ∧ At h0 hH b gt gf N arcs (fireRun N arcs [z] f).2 (T + 1) := by
  obtain ⟨hH, e, aH⟩ := a.grow (Hp.le_put (o := .cells #[iv z] 3 (0, 0)) hb)
  obtain ⟨Aa, Ai, Ao, ca, ci, co, I, O, w0⟩ := aH.web.ex
  have hbk : hH bk = some (numCells [z]) := by
    have e1 : bk ≠ gt := fun q => by subst q; rw [st_gt w0.ne] at hb; cases hb
    have e2 : bk ≠ gf := fun q => by subst q; rw [st_gf] at hb; cases hb
    have : st hH gt gf (toksOf arcs f) f bk = some (numCells [z]) := by rw [← e]; exact put_at
    rwa [st_other e1 e2] at this
  rw [e]
  have x := fire17 aH.web hs [z] f _ 1 1 T (tab_nums hbk) aH.good hT
  refine x.mono ?_
  rintro r h' ⟨_, rfl⟩
  exact ⟨hH, rfl, aH.le, aH.web, run_good hs [z] f T aH.good⟩
theorem firedAt {h0 hG : Hp} {b gt gf N T : Nat} {arcs : List Arc} {f : List Int} (hs : chk N arcs = 0) (a : At h0 hG b gt gf N arcs f T) :
    Fn Try.prog 18 #[ptr b] (st hG gt gf (toksOf arcs f) f) fun r h' => ∃ hH A c, h' = st hH gt gf (toksOf arcs f) f ∧ At h0 hH b gt gf N arcs f T ∧ r = .slice A N c ∧ Tab h' 1 A N (f.map fun z => [iv z]) := by
  have x := fired18 a.web (toksOf arcs f) f a.good.len (by have := (chk_zero hs).2.1; omega)
  refine x.mono ?_
  rintro r h' ⟨hle, A, c, rfl, ht⟩
  obtain ⟨hH, rfl, aH⟩ := a.grow hle
  exact ⟨hH, A, c, rfl, aH, rfl, ht⟩
end Go.Sx
