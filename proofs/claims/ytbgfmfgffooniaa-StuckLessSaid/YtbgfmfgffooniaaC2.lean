/- Blocks: their order does not matter; a token more frees. Conditions: none. -/
import Derived.Test.YtbgfmfgffooniaaS4
namespace Go.Sx
theorem firedOf_perm_some {l l' : List Blk} (hp : l.Perm l') (v : Int) : (firedOf l v).isSome = (firedOf l' v).isSome := by
  cases h : firedOf l v with
  | none =>
    have h1 := firedOf_none.1 h
    have : firedOf l' v = none := firedOf_none.2 fun b hb => h1 b (hp.mem_iff.2 hb)
    rw [this]
  | some z =>
    cases h' : firedOf l' v with
    | none =>
      have h1 := firedOf_none.1 h'
      obtain ⟨b, hb, hbv, _⟩ := firedOf_mem h
      exact absurd hbv (h1 b (hp.mem_iff.1 hb))
    | some z' => rfl
theorem firedOf_perm {l l' : List Blk} (hp : l.Perm l') (hn : (l.map Blk.node).Nodup) (v : Int) : firedOf l v = firedOf l' v := by
  have hn' : (l'.map Blk.node).Nodup := (hp.map Blk.node).nodup_iff.1 hn
  cases h : firedOf l v with
  | none =>
    have := firedOf_perm_some hp v
    rw [h] at this
    cases h' : firedOf l' v with
    | none => rfl
    | some z => rw [h'] at this; cases this
  | some z =>
    obtain ⟨b, hb, hbv, hbz⟩ := firedOf_mem h
    rw [← hbv, firedOf_of hn' (hp.mem_iff.1 hb), hbz]
theorem formed_perm {N : Int} {arcs : List Arc} {l l' : List Blk} (hp : l.Perm l') (h : formed N arcs l) : formed N arcs l' := by
  obtain ⟨h1, h2, h3, h4⟩ := h
  refine ⟨fun e => h1 ?_, fun b hb => h2 b (hp.mem_iff.2 hb), (hp.map Blk.node).nodup_iff.1 h3, fun b hb => ?_⟩
  · rw [e] at hp; exact hp.eq_nil
  · have := h4 b (hp.mem_iff.2 hb)
    unfold ok2 at this ⊢
    split
    · rename_i e; rw [e] at this; exact this
    · rename_i a e
      rw [e] at this
      simp only at this
      rw [← firedOf_perm_some hp]
      exact this
theorem loose1_perm {arcs : List Arc} {l l' : List Blk} (hp : l.Perm l') (hn : (l.map Blk.node).Nodup) (b : Blk) : loose1 arcs l b = loose1 arcs l' b := by
  unfold loose1
  split
  · rfl
  · rw [firedOf_perm hp hn]
theorem conf0_perm {N : Int} {arcs : List Arc} {l l' : List Blk} (hp : l.Perm l') : conf0 N arcs l = conf0 N arcs l' := by
  unfold conf0
  by_cases h : formed N arcs l
  · rw [if_pos h, if_pos (formed_perm hp h)]
    have : l.any (loose1 arcs l) = l'.any (loose1 arcs l') := by
      rw [Bool.eq_iff_iff, List.any_eq_true, List.any_eq_true]
      constructor
      · rintro ⟨b, hb, hl⟩
        exact ⟨b, hp.mem_iff.1 hb, by rw [← loose1_perm hp h.2.2.1]; exact hl⟩
      · rintro ⟨b, hb, hl⟩
        exact ⟨b, hp.mem_iff.2 hb, by rw [loose1_perm hp h.2.2.1]; exact hl⟩
    rw [this]
  · rw [if_neg h, if_neg (fun h' => h (formed_perm hp.symm h'))]
theorem conf_perm {N : Int} {arcs : List Arc} {l l' : List Blk} (hp : l.Perm l') : conf N arcs l = conf N arcs l' := by
  unfold conf
  rw [conf0_perm hp]
end Go.Sx
