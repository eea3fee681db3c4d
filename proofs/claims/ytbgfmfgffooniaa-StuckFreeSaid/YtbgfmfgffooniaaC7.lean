/- A confirmed block is never passed, in plain words. Conditions: none. -/
import Derived.Test.YtbgfmfgffooniaaC4
import Derived.Test.YtbgfmfgffooniaaC3
namespace Go.Sx
/-- no node with a block has fired more often than the block says -/
def Held (l : List Blk) (f : List Int) : Prop := ∀ b ∈ l, f.getD b.node.toNat 0 ≤ b.fired
theorem held_zero {N : Int} {l : List Blk} (h1 : ∀ b ∈ l, ok1 N b = true) (M : Nat) : Held l (List.replicate M 0) := fun b hb => by
  have := ok1_iff.1 (h1 b hb)
  rw [List.getD_eq_getElem?_getD, List.getElem?_replicate]
  split <;> simp <;> omega
theorem conf0_zero {N : Int} {arcs : List Arc} {l : List Blk} (h : conf0 N arcs l = 0) : formed N arcs l ∧ ∀ b ∈ l, loose1 arcs l b = false := by
  unfold conf0 at h
  split at h
  · rename_i hf
    split at h
    · cases h
    · rename_i hl
      exact ⟨hf, fun b hb => by simpa using fun k => hl (List.any_eq_true.2 ⟨b, hb, k⟩)⟩
  · cases h
theorem held_bump {N : Nat} {arcs : List Arc} {l : List Blk} {f : List Int} {T v : Nat} (hs : chk N arcs = 0) (hc : conf0 N arcs l = 0) (hh : Held l f) (hg : Good N arcs f T) (hm : may N arcs f v = true) : Held l (bump f v) := by
  obtain ⟨⟨_, f2, f3, f4⟩, hl⟩ := conf0_zero hc
  obtain ⟨hv, hm⟩ := may_iff.1 hm
  intro b hb
  have hb1 := ok1_iff.1 (f2 b hb)
  rw [bump_at _ _ _ (by rw [hg.len]; exact hv)]
  have hle := hh b hb
  by_cases e : b.node.toNat = v
  · rw [if_pos e]
    by_cases e2 : f.getD b.node.toNat 0 = b.fired
    · exfalso
      have q4 := f4 b hb
      have ql := hl b hb
      unfold ok2 at q4
      unfold loose1 at ql
      cases ha : arcOf arcs b with
      | none => rw [ha] at q4; cases q4
      | some a =>
        rw [ha] at q4 ql
        simp only [Bool.and_eq_true, decide_eq_true_eq, decide_eq_false_iff_not] at q4 ql
        have hmem : a ∈ arcs := by
          unfold arcOf at ha
          split at ha
          · exact List.mem_of_getElem? ha
          · cases ha
        have hok := okArc_zero ((chk_zero hs).2.2.2 a hmem)
        have ht := hm a hmem (by omega)
        obtain ⟨z, hz⟩ := Option.isSome_iff_exists.1 q4.2
        obtain ⟨c, hcm, c1, c2⟩ := firedOf_mem hz
        have hcl := hh c hcm
        rw [c1, c2] at hcl
        rw [hz, Option.getD_some] at ql
        unfold tokOf at ht
        rw [show a.dst.toNat = b.node.toNat by omega, e2] at ht
        have hmul : a.give * f.getD a.src.toNat 0 ≤ a.give * z := Int.mul_le_mul_of_nonneg_left hcl (by omega)
        have : a.take * (b.fired + 1) = a.take * b.fired + a.take := by rw [Int.mul_add, Int.mul_one]
        omega
    · omega
  · rw [if_neg e]; omega
theorem run_good {N : Nat} {arcs : List Arc} (hs : chk N arcs = 0) : ∀ (zs : List Int) (f : List Int) (T : Nat), Good N arcs f T → Good N arcs (fireRun N arcs zs f).2 (T + zs.length)
  | [], f, T, g => g
  | v :: zs, f, T, g => by
    unfold fireRun
    split
    · rename_i hm
      obtain ⟨u, rfl, _⟩ := may_out hm
      have := run_good hs zs (bump f u) (T + 1) (g.bump hs hm)
      rw [List.length_cons, show T + (zs.length + 1) = T + 1 + zs.length by omega]
      exact this
    · exact ⟨g.len, fun x hx => by have := g.lo x hx; omega, g.tok⟩
theorem run_held {N : Nat} {arcs : List Arc} {l : List Blk} (hs : chk N arcs = 0) (hc : conf0 N arcs l = 0) : ∀ (zs : List Int) (f : List Int) (T : Nat), Good N arcs f T → Held l f → Held l (fireRun N arcs zs f).2
  | [], f, T, g, hh => hh
  | v :: zs, f, T, g, hh => by
    unfold fireRun
    split
    · rename_i hm
      obtain ⟨u, rfl, _⟩ := may_out hm
      exact run_held hs hc zs (bump f u) (T + 1) (g.bump hs hm) (held_bump hs hc hh g hm)
    · exact hh
theorem good_zero {N : Nat} {arcs : List Arc} (hs : chk N arcs = 0) : Good N arcs (List.replicate N 0) 0 := by
  refine ⟨by simp, fun x hx => by rw [List.eq_of_mem_replicate hx]; simp, fun a ha => ?_⟩
  have hok := okArc_zero ((chk_zero hs).2.2.2 a ha)
  have : ∀ i : Nat, (List.replicate N (0 : Int)).getD i 0 = 0 := fun i => by
    rw [List.getD_eq_getElem?_getD, List.getElem?_replicate]
    split <;> rfl
  unfold tokOf; rw [this, this]; omega
end Go.Sx
