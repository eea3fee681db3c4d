/- Blocks: with a token more at the start what holds may get loose, and no more. Conditions: none. -/
import Derived.Test.YtbgfmfgffooniaaC2
namespace Go.Sx
def Arc.more (a : Arc) : Arc := { a with start := a.start + 1 }
theorem okArc_more {N : Int} {a : Arc} (h0 : 0 ≤ a.start) (h1 : a.start < 256) : okArc N a.more = okArc N a := by
  simp only [okArc, Arc.more]
  have : (a.start + 1 < 0 ∨ 256 < a.start + 1) ↔ (a.start < 0 ∨ 256 < a.start) := by omega
  simp only [this]
theorem chkL_set {N : Int} : ∀ (l : List Arc) (i : Nat) (a : Arc), l[i]? = some a → 0 ≤ a.start → a.start < 256 → chkL N (l.set i a.more) = chkL N l
  | [], i, a, h, _, _ => by simp at h
  | b :: l, 0, a, h, h0, h1 => by
    injection h with h
    subst h
    simp only [List.set_cons_zero, chkL, okArc_more h0 h1]
  | b :: l, i + 1, a, h, h0, h1 => by
    simp only [List.set_cons_succ, chkL, chkL_set l i a (by simpa using h) h0 h1]
section
variable {N : Int} {arcs : List Arc} {l : List Blk} {i : Nat} {a : Arc} (hi : arcs[i]? = some a) (h0 : 0 ≤ a.start) (h1 : a.start < 256)
include hi
theorem arcOf_set (b : Blk) : arcOf (arcs.set i a.more) b = arcOf arcs b ∨ (arcOf arcs b = some a ∧ arcOf (arcs.set i a.more) b = some a.more) := by
  unfold arcOf
  split
  · rw [List.getElem?_set]
    split
    · rename_i e
      subst e
      rw [if_pos (List.getElem?_eq_some_iff.1 hi).1]
      exact .inr ⟨hi, rfl⟩
    · exact .inl rfl
  · exact .inl rfl
theorem ok2_set (b : Blk) : ok2 (arcs.set i a.more) l b = ok2 arcs l b := by
  unfold ok2
  rcases arcOf_set hi b with e | ⟨e1, e2⟩
  · rw [e]
  · rw [e1, e2]; rfl
theorem formed_set : formed N (arcs.set i a.more) l ↔ formed N arcs l := by
  unfold formed
  simp only [ok2_set hi]
theorem loose_set (b : Blk) (h : loose1 arcs l b = true) : loose1 (arcs.set i a.more) l b = true := by
  unfold loose1 at h ⊢
  rcases arcOf_set hi b with e | ⟨e1, e2⟩
  · rw [e]; exact h
  · rw [e1] at h
    rw [e2]
    simp only [decide_eq_true_eq] at h ⊢
    show a.take * (b.fired + 1) ≤ a.start + 1 + a.give * (firedOf l a.src).getD 0
    omega
include h0 h1
theorem chk_set : chk N (arcs.set i a.more) = chk N arcs := by
  unfold chk
  rw [chkL_set arcs i a hi h0 h1, List.length_set]
theorem conf_set : (conf N arcs l = 0 → conf N (arcs.set i a.more) l = 0 ∨ conf N (arcs.set i a.more) l = 141) ∧ (conf N arcs l ≠ 0 → conf N (arcs.set i a.more) l = conf N arcs l) := by
  unfold conf
  rw [chk_set hi h0 h1]
  by_cases hc : chk N arcs = 0
  · rw [if_pos hc, if_pos hc]
    unfold conf0
    by_cases hf : formed N arcs l
    · rw [if_pos hf, if_pos ((formed_set hi).2 hf)]
      refine ⟨fun _ => by split <;> simp, fun h => ?_⟩
      split at h
      · rename_i hl
        obtain ⟨b, hb, hbl⟩ := List.any_eq_true.1 hl
        rw [if_pos (List.any_eq_true.2 ⟨b, hb, loose_set hi b hbl⟩), if_pos hl]
      · exact absurd rfl h
    · rw [if_neg hf, if_neg (fun e => hf ((formed_set hi).1 e))]
      exact ⟨(fun e => by cases e), fun _ => rfl⟩
  · rw [if_neg hc, if_neg hc]
    exact ⟨fun e => absurd e hc, fun _ => rfl⟩
end
end Go.Sx
