/- Layer 14: a net's state in memory, and its small readers. Conditions: none. -/
import Derived.Test.YtbgfmfgffooniaaS7
namespace Go.Sx
open Go.Proofs
/-- the arcs that lead to a node, and those that lead from it -/
def ins (arcs : List Arc) (v : Nat) : List Nat := (List.range arcs.length).filter fun i => decide ((arcs[i]?).map Arc.dst = some (v : Int))
def outs (arcs : List Arc) (v : Nat) : List Nat := (List.range arcs.length).filter fun i => decide ((arcs[i]?).map Arc.src = some (v : Int))
def idxRows (l : List Nat) : List (List Value) := l.map fun (i : Nat) => [iv (i : Int)]
def slcRows (N : Nat) (len : Nat → Nat) (I : Nat → Option Addr × Nat) : List (List Value) := (List.range N).map fun v => [.slice (I v).1 (len v) (I v).2]
/-- What of a net's state does not change. -/
structure WebAt (hF : Hp) (b gt gf N : Nat) (arcs : List Arc) (Aa Ai Ao : Option Addr) (ca ci co : Nat) (I O : Nat → Option Addr × Nat) : Prop where
  head : hF b = some (.cells #[.slice Aa arcs.length ca, .slice Ai N ci, .slice Ao N co, .slice (some ⟨gt, 0, none⟩) arcs.length arcs.length, .slice (some ⟨gf, 0, none⟩) N N] 57 (0, 0))
  tab : Tab hF 5 Aa arcs.length (arcs.map Arc.cells)
  into : Tab hF 1 Ai N (slcRows N (fun v => (ins arcs v).length) I)
  out : Tab hF 1 Ao N (slcRows N (fun v => (outs arcs v).length) O)
  inRow : ∀ v, v < N → Tab hF 1 (I v).1 (ins arcs v).length (idxRows (ins arcs v))
  outRow : ∀ v, v < N → Tab hF 1 (O v).1 (outs arcs v).length (idxRows (outs arcs v))
  freeT : hF gt = none
  freeF : hF gf = none
  ne : gt ≠ gf
structure Web (hF : Hp) (b gt gf N : Nat) (arcs : List Arc) : Prop where
  ex : ∃ Aa Ai Ao ca ci co I O, WebAt hF b gt gf N arcs Aa Ai Ao ca ci co I O
theorem Web.mono {hF hG : Hp} {b gt gf N : Nat} {arcs : List Arc} (w : Web hF b gt gf N arcs) (x : hF.le hG) (h1 : hG gt = none) (h2 : hG gf = none) : Web hG b gt gf N arcs := by
  obtain ⟨Aa, Ai, Ao, ca, ci, co, I, O, w⟩ := w.ex
  exact ⟨Aa, Ai, Ao, ca, ci, co, I, O, ⟨x _ _ w.head, w.tab.mono x, w.into.mono x, w.out.mono x, fun v hv => (w.inRow v hv).mono x, fun v hv => (w.outRow v hv).mono x, h1, h2, w.ne⟩⟩
def numCells (l : List Int) : Obj := .cells (l.map iv).toArray 3 (0, 0)
def st (hF : Hp) (gt gf : Nat) (toks fired : List Int) : Hp := (hF.put gt (numCells toks)).put gf (numCells fired)
section
variable {hF h : Hp} {b gt gf N : Nat} {arcs : List Arc} {toks fired : List Int}
theorem Hp.le_st (h1 : hF gt = none) (h2 : hF gf = none) : hF.le (st hF gt gf toks fired) := fun j o e => by
  unfold st
  rw [Hp.put_ne _ _ (fun q => by rw [q, h2] at e; cases e), Hp.put_ne _ _ (fun q => by rw [q, h1] at e; cases e)]
  exact e
theorem st_gt (hne : gt ≠ gf) : st hF gt gf toks fired gt = some (numCells toks) := by
  unfold st; rw [Hp.put_ne _ _ hne, Hp.put_same]
theorem st_gf : st hF gt gf toks fired gf = some (numCells fired) := by
  unfold st; rw [Hp.put_same]
/-- what has grown from a state is a state -/
theorem st_grow {h' : Hp} (hne : gt ≠ gf) (h1 : hF gt = none) (h2 : hF gf = none) (x : (st hF gt gf toks fired).le h') : ∃ hG, h' = st hG gt gf toks fired ∧ hF.le hG ∧ hG gt = none ∧ hG gf = none := by
  refine ⟨(h'.del gt).del gf, ?_, fun j o e => ?_, ?_, Hp.del_same _ _⟩
  · funext j
    unfold st
    by_cases e2 : j = gf
    · subst e2; rw [Hp.put_same]; exact x _ _ st_gf
    · rw [Hp.put_ne _ _ e2]
      by_cases e1 : j = gt
      · subst e1; rw [Hp.put_same]; exact x _ _ (st_gt hne)
      · rw [Hp.put_ne _ _ e1, Hp.del_ne _ e2, Hp.del_ne _ e1]
  · have e2 : j ≠ gf := fun q => by rw [q, h2] at e; cases e
    have e1 : j ≠ gt := fun q => by rw [q, h1] at e; cases e
    rw [Hp.del_ne _ e2, Hp.del_ne _ e1]
    exact x _ _ (Hp.le_st h1 h2 _ _ e)
  · rw [Hp.del_ne _ hne, Hp.del_same]
theorem st_tok (t : List Int) : (st hF gt gf toks fired).put gt (numCells t) = st hF gt gf t fired ∨ gt = gf := by
  by_cases e : gt = gf
  · exact .inr e
  · left
    funext j
    simp only [st, Hp.put]
    by_cases h1 : j = gt
    · subst h1; simp [e]
    · simp [h1]
theorem st_fir (f : List Int) : (st hF gt gf toks fired).put gf (numCells f) = st hF gt gf toks f := by
  unfold st; rw [Hp.put_put]
theorem head_cell {hs : Hp} {cs : List Value} {b ty : Nat} (hb : hs b = some (.cells cs.toArray ty (0, 0))) {j : Nat} {v : Value} (hv : cs[j]? = some v) : hs.cell? ⟨b, j, none⟩ = some v := by
  unfold Hp.cell?
  simp only [hb, Option.isSome_none, Bool.false_eq_true, if_false]
  simpa using hv
end
def ptr (b : Nat) : Value := .pointer (some ⟨b, 0, none⟩)
theorem has29 {hF h : Hp} {b gt gf N : Nat} {arcs : List Arc} (w : Web hF b gt gf N arcs) (x : hF.le h) (v : Int) : Fn Try.prog 29 #[ptr b, iv v] h fun r h' => r = .bool (okNode N v) ∧ h' = h := by
  obtain ⟨Aa, Ai, Ao, ca, ci, co, I, O, w⟩ := w.ex
  refine Fn.intro (args := [ptr b, iv v]) mix14 Try.func29 rfl (by decide) Try.ntmps29 rfl (low29 rfl) rfl ?_
  conv => whnf
  refine br_dec (fun h1 => ?_) (fun h1 => ?_)
  · conv => whnf
    refine .hp _ (Hp.cell_le x (head_cell w.head (j := 1) rfl)) ?_
    conv => whnf
    refine .done ⟨?_, rfl⟩
    simp only [oneVal, okNode, decide_eq_true h1, Bool.true_and]
  · conv => whnf
    refine .done ⟨?_, rfl⟩
    simp only [oneVal, okNode, decide_eq_false h1, Bool.false_and]
theorem needs25 {hF h : Hp} {b gt gf N : Nat} {arcs : List Arc} (w : Web hF b gt gf N arcs) (x : hF.le h) (v : Nat) (hv : v < N) :
    Fn Try.prog 25 #[ptr b, iv v] h fun r h' => (∃ A c, r = .slice A (ins arcs v).length c ∧ Tab hF 1 A (ins arcs v).length (idxRows (ins arcs v))) ∧ h' = h := by
  obtain ⟨Aa, Ai, Ao, ca, ci, co, I, O, w⟩ := w.ex
  refine Fn.intro (args := [ptr b, iv v]) mix14 Try.func25 rfl (by decide) Try.ntmps25 rfl (low25 rfl) rfl ?_
  conv => whnf
  refine .hp _ (Hp.cell_le x (head_cell w.head (j := 1) rfl)) ?_
  obtain ⟨g, hg⟩ := w.into.ad (by omega)
  conv => whnf
  refine .mk g hg (by omega) (by omega) ?_
  conv => whnf
  refine .hp (.slice (I v).1 (ins arcs v).length (I v).2) (by rw [Int.toNat_natCast]; exact (w.into.mono x).one hg (by simp [slcRows, hv]; rfl) rfl) ?_
  conv => whnf
  exact .done ⟨⟨_, _, rfl, w.inRow v hv⟩, rfl⟩
theorem feeds26 {hF h : Hp} {b gt gf N : Nat} {arcs : List Arc} (w : Web hF b gt gf N arcs) (x : hF.le h) (v : Nat) (hv : v < N) :
    Fn Try.prog 26 #[ptr b, iv v] h fun r h' => (∃ A c, r = .slice A (outs arcs v).length c ∧ Tab hF 1 A (outs arcs v).length (idxRows (outs arcs v))) ∧ h' = h := by
  obtain ⟨Aa, Ai, Ao, ca, ci, co, I, O, w⟩ := w.ex
  refine Fn.intro (args := [ptr b, iv v]) mix14 Try.func26 rfl (by decide) Try.ntmps26 rfl (low26 rfl) rfl ?_
  conv => whnf
  refine .hp _ (Hp.cell_le x (head_cell w.head (j := 2) rfl)) ?_
  obtain ⟨g, hg⟩ := w.out.ad (by omega)
  conv => whnf
  refine .mk g hg (by omega) (by omega) ?_
  conv => whnf
  refine .hp (.slice (O v).1 (outs arcs v).length (O v).2) (by rw [Int.toNat_natCast]; exact (w.out.mono x).one hg (by simp [slcRows, hv]; rfl) rfl) ?_
  conv => whnf
  exact .done ⟨⟨_, _, rfl, w.outRow v hv⟩, rfl⟩
end Go.Sx
