/- What leads to and from a node, as far as the arcs have been gone through. Conditions: none. -/
import Derived.Test.YtbgfmfgffooniaaC5
namespace Go.Sx
def part (arcs : List Arc) (N k v : Nat) : List Nat := if v < N then (List.range k).filter (fun i => decide ((arcs[i]?).map Arc.dst = some (v : Int))) else (List.range k).filter (fun i => decide ((arcs[i]?).map Arc.src = some ((v - N : Nat) : Int)))
theorem part_in {arcs : List Arc} {N v : Nat} (hv : v < N) : part arcs N arcs.length v = ins arcs v := by rw [part, if_pos hv]; rfl
theorem part_out {arcs : List Arc} {N v : Nat} : part arcs N arcs.length (N + v) = outs arcs v := by
  rw [part, if_neg (by omega), Nat.add_sub_cancel_left]; rfl
theorem part_zero (arcs : List Arc) (N v : Nat) : part arcs N 0 v = [] := by simp [part]
theorem part_step {arcs : List Arc} {N k d s : Nat} (hk : k < arcs.length) (hd : arcs[k].dst = d) (hs : arcs[k].src = s) (hdN : d < N) (v : Nat) :
    part arcs N (k + 1) v = updJ (updJ (part arcs N k) d (part arcs N k d ++ [k])) (N + s) (part arcs N k (N + s) ++ [k]) v := by
  have hget : arcs[k]? = some arcs[k] := List.getElem?_eq_getElem hk
  simp only [updJ]
  by_cases h1 : v = N + s
  · subst h1
    rw [if_pos rfl]
    simp only [part, if_neg (show ¬ N + s < N by omega), Nat.add_sub_cancel_left, List.range_succ, List.filter_append]
    simp [hget, hs]
  · rw [if_neg h1]
    by_cases h2 : v = d
    · subst h2
      rw [if_pos rfl]
      simp only [part, if_pos hdN, List.range_succ, List.filter_append]
      simp [hget, hd]
    · rw [if_neg h2]
      unfold part
      split
      · rw [List.range_succ, List.filter_append]
        have : ¬ ((arcs[k]?).map Arc.dst = some (v : Int)) := by
          rw [hget]; simp only [Option.map_some, Option.some.injEq, hd]; omega
        rw [List.filter_cons_of_neg (by simpa only [decide_eq_true_eq] using this), List.filter_nil, List.append_nil]
      · rw [List.range_succ, List.filter_append]
        have : ¬ ((arcs[k]?).map Arc.src = some ((v - N : Nat) : Int)) := by
          rw [hget]; simp only [Option.map_some, Option.some.injEq, hs]; omega
        rw [List.filter_cons_of_neg (by simpa only [decide_eq_true_eq] using this), List.filter_nil, List.append_nil]
end Go.Sx
