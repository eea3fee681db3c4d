/- Layer 14: how often each node has fired. Conditions: none. -/
import Derived.Test.YtbgfmfgffooniaaS10
namespace Go.Sx
open Go.Proofs
theorem flat_nums : ∀ (l : List Int), (l.map fun z => [iv z]).flatten = l.map iv
  | [] => rfl
  | x :: l => by rw [List.map_cons, List.flatten_cons, flat_nums l]; rfl
theorem nums_one (l : List Int) : ∀ u ∈ l.map iv, u.oneCell' = true := by
  intro u hu
  obtain ⟨z, _, rfl⟩ := List.mem_map.1 hu
  rfl
theorem tab_nums {h : Hp} {g : Nat} {l : List Int} (hb : h g = some (numCells l)) : Tab h 1 (some ⟨g, 0, none⟩) l.length (l.map fun z => [iv z]) :=
  Tab.lit hb (flat_nums l) (ints_wid l) (by simp)
theorem fired18 {hF : Hp} {b gt gf N : Nat} {arcs : List Arc} (w : Web hF b gt gf N arcs) (toks fired : List Int) (hfl : fired.length = N) (hN : N ≤ 32) :
    Fn Try.prog 18 #[ptr b] (st hF gt gf toks fired) fun r h' => (st hF gt gf toks fired).le h' ∧ ∃ A c, r = .slice A N c ∧ Tab h' 1 A N (fired.map fun z => [iv z]) := by
  obtain ⟨Aa, Ai, Ao, ca, ci, co, I, O, w0⟩ := w.ex
  have x : hF.le (st hF gt gf toks fired) := Hp.le_st w0.freeT w0.freeF
  have hgf : st hF gt gf toks fired gf = some (numCells fired) := st_gf
  have ht := tab_nums hgf
  rw [hfl] at ht
  generalize hh : st hF gt gf toks fired = h at x hgf ht
  refine Fn.intro (args := [ptr b]) mix14 Try.func18 rfl (by decide) Try.ntmps18 rfl (low18 rfl) rfl ?_
  conv => whnf
  refine .hp _ (Hp.cell_le x (head_cell w0.head (j := 4) rfl)) ?_
  conv => whnf
  refine .mk fun b2 hb2 => ?_
  conv => whnf
  refine .done (.old 1 _ _ rfl (ht.src _) (by rw [flat_nums]; exact nums_one _) (by simp [maxLen]; omega) (by omega) fun A' c' _ => ?_)
  conv => whnf
  refine .pub 1 3 1 A' (0 + N) c' _ rfl fun h' hle hr _ => ?_
  have hr' : RowAt h' 3 1 A' (0 + N) c' (fired.map fun z => [iv z]).flatten := hr
  rw [Nat.zero_add] at hr'
  exact .done ⟨hle, A', c', by rw [Nat.zero_add]; rfl, hr'.tab (ints_wid _) (by decide)⟩
end Go.Sx
