/- Layer 18: what arcs have now, and one node that fires. Conditions: none. -/
import Derived.Test.YtfdcoiiaiihdnaaN18C
namespace Go.Sx
open Go.Proofs
theorem run_good {N : Nat} {arcs : List Arc} (hs : chk N arcs = 0) : ∀ (zs : List Int) (f : List Int) (T : Nat), Good N arcs f T → Good N arcs (fireRun N arcs zs f).2 (T + zs.length)
  | [], f, T, g => g
  | v :: zs, f, T, g => by
    unfold fireRun
    split
    · rename_i hm
      obtain ⟨u, rfl, _⟩ := may_out hm
      have := run_good hs zs (bump f u) (T + 1) (g.bump hs hm)
      rw [List.length_cons, show T + (zs.length + 1) = T + 1 + zs.length by omega]
      exact this
    · exact ⟨g.len, fun x hx => by have := g.lo x hx; omega, g.tok⟩
theorem good_zero {N : Nat} {arcs : List Arc} (hs : chk N arcs = 0) : Good N arcs (List.replicate N 0) 0 := by
  refine ⟨by simp, fun x hx => by rw [List.eq_of_mem_replicate hx]; simp, fun a ha => ?_⟩
  have hok := okArc_zero ((chk_zero hs).2.2.2 a ha)
  have : ∀ i : Nat, (List.replicate N (0 : Int)).getD i 0 = 0 := fun i => by
    rw [List.getD_eq_getElem?_getD, List.getElem?_replicate]
    split <;> rfl
  unfold tokOf; rw [this, this]; omega
theorem st_other {hF : Hp} {gt gf j : Nat} {t f : List Int} (h1 : j ≠ gt) (h2 : j ≠ gf) : st hF gt gf t f j = hF j := by
  unfold st; rw [Hp.put_ne _ _ h2, Hp.put_ne _ _ h1]
/-- A state of a net: how often its nodes have fired. -/
structure At (h0 hG : Hp) (b gt gf N : Nat) (arcs : List Arc) (f : List Int) (T : Nat) : Prop where
  le : h0.le hG
  web : Web hG b gt gf N arcs
  good : Good N arcs f T
theorem At.grow {h0 hG h' : Hp} {b gt gf N T : Nat} {arcs : List Arc} {f : List Int} {t : List Int} (a : At h0 hG b gt gf N arcs f T) (x : (st hG gt gf t f).le h') : ∃ hH, h' = st hH gt gf t f ∧ At h0 hH b gt gf N arcs f T := by
  obtain ⟨Aa, Ai, Ao, ca, ci, co, I, O, w0⟩ := a.web.ex
  obtain ⟨hH, e, hle, h1, h2⟩ := st_grow w0.ne w0.freeT w0.freeF x
  exact ⟨hH, e, Hp.le_trans a.le hle, a.web.mono hle h1 h2, a.good⟩
theorem At.all {h0 hG : Hp} {b gt gf N T : Nat} {arcs : List Arc} {f t : List Int} (a : At h0 hG b gt gf N arcs f T) : h0.le (st hG gt gf t f) := by
  obtain ⟨Aa, Ai, Ao, ca, ci, co, I, O, w0⟩ := a.web.ex
  exact Hp.le_trans a.le (Hp.le_st w0.freeT w0.freeF)
theorem fireOne {h0 hG : Hp} {b gt gf N T bk : Nat} {arcs : List Arc} {f : List Int} (hs : chk N arcs = 0) (a : At h0 hG b gt gf N arcs f T) (hT : T + 1 ≤ 70368744177664) (z : Int) (hb : st hG gt gf (toksOf arcs f) f bk = none) :
    Fn Try.prog 26 #[ptr b, .slice (some ⟨bk, 0, none⟩) 1 1] ((st hG gt gf (toksOf arcs f) f).put bk (.cells #[iv z] 3 (0, 0))) fun r h' => r = iv (fireRun N arcs [z] f).1 ∧ ∃ hH, h' = st hH gt gf (toksOf arcs (fireRun N arcs [z] f).2) (fireRun N arcs [z] f).2 ∧ At h0 hH b gt gf N arcs (fireRun N arcs [z] f).2 (T + 1) := by
  obtain ⟨hH, e, aH⟩ := a.grow (Hp.le_put (o := .cells #[iv z] 3 (0, 0)) hb)
  obtain ⟨Aa, Ai, Ao, ca, ci, co, I, O, w0⟩ := aH.web.ex
  have hbk : hH bk = some (numCells [z]) := by
    have e1 : bk ≠ gt := fun q => by subst q; rw [st_gt w0.ne] at hb; cases hb
    have e2 : bk ≠ gf := fun q => by subst q; rw [st_gf] at hb; cases hb
    have : st hH gt gf (toksOf arcs f) f bk = some (numCells [z]) := by rw [← e]; exact put_at
    rwa [st_other e1 e2] at this
  rw [e]
  have x := fire17 aH.web hs [z] f _ 1 1 T (tab_nums hbk) aH.good hT
  refine x.mono ?_
  rintro r h' ⟨rfl, rfl⟩
  exact ⟨rfl, hH, rfl, aH.le, aH.web, run_good hs [z] f T aH.good⟩
theorem counts27 {h0 hG : Hp} {b gt gf N T : Nat} {arcs : List Arc} {f : List Int} (hs : chk N arcs = 0) (a : At h0 hG b gt gf N arcs f T) :
    Fn Try.prog 27 #[ptr b] (st hG gt gf (toksOf arcs f) f) fun r h' => ∃ g c, r = .slice (some g) arcs.length c ∧ (st hG gt gf (toksOf arcs f) f).le h' ∧ RowAt h' 3 1 (some g) arcs.length c ((toksOf arcs f).map iv) ∧ st hG gt gf (toksOf arcs f) f g.block = none := by
  obtain ⟨Aa, Ai, Ao, ca, ci, co, I, O, w0⟩ := a.web.ex
  have hsz := (chk_zero hs).2.2.1
  have x : hG.le (st hG gt gf (toksOf arcs f) f) := Hp.le_st w0.freeT w0.freeF
  have hgt : st hG gt gf (toksOf arcs f) f gt = some (numCells (toksOf arcs f)) := st_gt w0.ne
  have ht := tab_nums hgt
  rw [toksOf_len] at ht
  generalize hh : st hG gt gf (toksOf arcs f) f = h at x hgt ht
  refine Fn.intro (args := [ptr b]) mix14 Try.func27 rfl (by decide) Try.ntmps27 rfl (low27 rfl) rfl ?_
  conv => whnf
  refine .hp _ (Hp.cell_le x (head_cell w0.head (j := 3) rfl)) ?_
  conv => whnf
  refine .mk fun b2 hb2 => ?_
  conv => whnf
  refine .done (.old 1 _ _ rfl (ht.src _) (by rw [flat_nums]; exact nums_one _) (by simp [maxLen]; omega) (by omega) fun A' c' hA => ?_)
  conv => whnf
  refine .pub 1 3 1 A' (0 + arcs.length) c' _ rfl fun h' hle hr hf => ?_
  have hr' : RowAt h' 3 1 A' (0 + arcs.length) c' ((toksOf arcs f).map fun z => [iv z]).flatten := hr
  rw [Nat.zero_add, flat_nums] at hr'
  obtain ⟨g, rfl⟩ := some_of hA.1
  exact .done ⟨g, c', by rw [Nat.zero_add]; rfl, hle, hr', hf g rfl⟩
/-! what a list of firings gives, in plain words -/
def alongR (N : Nat) (arcs : List Arc) : List Int → List Int → Int × List (List Int)
  | [], _ => (0, [])
  | v :: l, f => if v < 0 ∨ (N : Int) ≤ v then (100, []) else if may N arcs f v = true then ((alongR N arcs l (bump f v.toNat)).1, toksOf arcs (bump f v.toNat) :: (alongR N arcs l (bump f v.toNat)).2) else (180, [])
def along (N : Int) (arcs : List Arc) (zs : List Int) : Int × List (List Int) :=
  if chk N arcs = 0 then (if 2048 < zs.length then (2, []) else ((alongR N.toNat arcs zs (List.replicate N.toNat 0)).1, toksOf arcs (List.replicate N.toNat 0) :: (alongR N.toNat arcs zs (List.replicate N.toNat 0)).2)) else (chk N arcs, [])
theorem fire_yes {N : Nat} {arcs : List Arc} {f : List Int} {v : Int} (h : may N arcs f v = true) : fireRun N arcs [v] f = (1, bump f v.toNat) := by simp [fireRun, h]
theorem fire_no {N : Nat} {arcs : List Arc} {f : List Int} {v : Int} (h : may N arcs f v = false) : fireRun N arcs [v] f = (0, f) := by simp [fireRun, h]
/-- two partial heaps have no block in common -/
def Disj (K X : Hp) : Prop := ∀ j, X j ≠ none → K j = none
def Hp.empty : Hp := fun _ => none
theorem Disj.empty (K : Hp) : Disj K Hp.empty := fun _ h => absurd rfl h
theorem Hp.le_empty (h : Hp) : Hp.empty.le h := fun _ _ e => by cases e
/-- What a step function must do with the rows so far (in memory of their own, X) and one more. -/
def NextOk (f : FuncId) (R : List (List Int) → Value → Hp → Prop) (M n : Nat) : Prop :=
  ∀ rows v X h g c toks, rows.length ≤ M → R rows v X → X.le h → X g.block = none → RowAt h 3 1 (some g) n c (toks.map iv) → toks.length = n →
    Fn Try.prog f #[v, .slice (some g) n c] h fun r h' => ∃ X', R (rows ++ [toks]) r X' ∧ X'.le h' ∧ ∀ K, K.le h → Disj K X → K g.block = none → K.le h' ∧ Disj K X'
end Go.Sx
