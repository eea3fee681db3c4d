/- A net that fires, in plain words: what is on the arcs is a matter of how often the nodes have fired. Conditions: none. -/
import Derived.Test.YtbgfmfgffooniaaS9
namespace Go.Sx
def tokOf (fired : List Int) (a : Arc) : Int := a.start + a.give * fired.getD a.src.toNat 0 - a.take * fired.getD a.dst.toNat 0
def toksOf (arcs : List Arc) (fired : List Int) : List Int := arcs.map (tokOf fired)
/-- on the way from one state to the next -/
def tokMask (arcs : List Arc) (fired : List Int) (p q : Nat → Bool) : List Int := arcs.zipIdx.map fun x => tokOf fired x.1 - (if p x.2 = true then x.1.take else 0) + (if q x.2 = true then x.1.give else 0)
theorem tokMask_len (arcs : List Arc) (fired : List Int) (p q : Nat → Bool) : (tokMask arcs fired p q).length = arcs.length := by simp [tokMask]
theorem toksOf_len (arcs : List Arc) (fired : List Int) : (toksOf arcs fired).length = arcs.length := by simp [toksOf]
theorem tokMask_at {arcs : List Arc} {fired : List Int} {p q : Nat → Bool} {i : Nat} (hi : i < arcs.length) : (tokMask arcs fired p q)[i]'(by rw [tokMask_len]; exact hi) = tokOf fired arcs[i] - (if p i = true then arcs[i].take else 0) + (if q i = true then arcs[i].give else 0) := by
  simp [tokMask]
theorem tokMask_zero (arcs : List Arc) (fired : List Int) {p q : Nat → Bool} (hp : ∀ i, p i = false) (hq : ∀ i, q i = false) : tokMask arcs fired p q = toksOf arcs fired := by
  apply List.ext_getElem
  · simp [tokMask, toksOf]
  · intro i h1 h2
    rw [tokMask_at (by simpa [tokMask] using h1)]
    simp [toksOf, hp, hq]
theorem tokMask_sub {arcs : List Arc} {fired : List Int} {p p' q : Nat → Bool} {i : Nat} (hi : i < arcs.length) (h0 : p i = false) (h1 : p' i = true) (h2 : ∀ j, j ≠ i → p' j = p j) :
    (tokMask arcs fired p q).set i ((tokMask arcs fired p q)[i]'(by rw [tokMask_len]; exact hi) - arcs[i].take) = tokMask arcs fired p' q := by
  apply List.ext_getElem
  · simp [tokMask]
  · intro j h3 h4
    have hj : j < arcs.length := by simpa [tokMask] using h4
    rw [List.getElem_set, tokMask_at hj]
    split
    · rename_i e
      subst e
      rw [tokMask_at hi, tokMask_at hi, h0, h1]
      simp
      omega
    · rename_i e
      rw [tokMask_at hj, h2 j (Ne.symm e)]
theorem tokMask_add {arcs : List Arc} {fired : List Int} {p q q' : Nat → Bool} {i : Nat} (hi : i < arcs.length) (h0 : q i = false) (h1 : q' i = true) (h2 : ∀ j, j ≠ i → q' j = q j) :
    (tokMask arcs fired p q).set i ((tokMask arcs fired p q)[i]'(by rw [tokMask_len]; exact hi) + arcs[i].give) = tokMask arcs fired p q' := by
  apply List.ext_getElem
  · simp [tokMask]
  · intro j h3 h4
    have hj : j < arcs.length := by simpa [tokMask] using h4
    rw [List.getElem_set, tokMask_at hj]
    split
    · rename_i e
      subst e
      rw [tokMask_at hi, tokMask_at hi, h0, h1]
      simp
    · rename_i e
      rw [tokMask_at hj, h2 j (Ne.symm e)]
theorem tokMask_ext {arcs : List Arc} {fired : List Int} {p q p' q' : Nat → Bool} (hp : ∀ i, p i = p' i) (hq : ∀ i, q i = q' i) : tokMask arcs fired p q = tokMask arcs fired p' q' := by
  rw [funext hp, funext hq]

def sound (N : Int) (arcs : List Arc) : Prop := chk N arcs = 0
def bump (fired : List Int) (v : Nat) : List Int := fired.set v (fired.getD v 0 + 1)
theorem bump_at (fired : List Int) (v u : Nat) (hv : v < fired.length) : (bump fired v).getD u 0 = fired.getD u 0 + if u = v then 1 else 0 := by
  simp only [bump, List.getD_eq_getElem?_getD, List.getElem?_set]
  by_cases e : v = u
  · subst e; simp [hv]
  · rw [if_neg e, if_neg (Ne.symm e)]; simp
theorem tokOf_bump {N : Nat} {fired : List Int} {a : Arc} {v : Nat} (ha : okArc N a = 0) (hl : fired.length = N) (hv : v < N) :
    tokOf (bump fired v) a = tokOf fired a - (if a.dst = v then a.take else 0) + (if a.src = v then a.give else 0) := by
  have hb := okArc_zero ha
  unfold tokOf
  rw [bump_at _ _ _ (by omega), bump_at _ _ _ (by omega)]
  have e1 : (a.src.toNat = v) ↔ (a.src = v) := by omega
  have e2 : (a.dst.toNat = v) ↔ (a.dst = v) := by omega
  simp only [e1, e2, Int.mul_add]
  by_cases h1 : a.src = v <;> by_cases h2 : a.dst = v <;> simp only [h1, h2, if_true, if_false, Int.mul_one, Int.mul_zero] <;> omega
theorem mem_ins {arcs : List Arc} {v i : Nat} (hi : i < arcs.length) : i ∈ ins arcs v ↔ arcs[i].dst = v := by
  simp [ins, hi]
theorem mem_outs {arcs : List Arc} {v i : Nat} (hi : i < arcs.length) : i ∈ outs arcs v ↔ arcs[i].src = v := by
  simp [outs, hi]
theorem nodup_ins (arcs : List Arc) (v : Nat) : (ins arcs v).Nodup := List.Pairwise.filter _ List.nodup_range
theorem nodup_outs (arcs : List Arc) (v : Nat) : (outs arcs v).Nodup := List.Pairwise.filter _ List.nodup_range
theorem tokMask_step {N : Nat} {arcs : List Arc} {fired : List Int} {v : Nat} (hs : chk N arcs = 0) (hl : fired.length = N) (hv : v < N) :
    tokMask arcs fired (fun i => decide (i ∈ ins arcs v)) (fun i => decide (i ∈ outs arcs v)) = toksOf arcs (bump fired v) := by
  apply List.ext_getElem
  · simp [tokMask, toksOf]
  · intro i h1 h2
    have hi : i < arcs.length := by simpa [toksOf] using h2
    rw [tokMask_at hi]
    simp only [toksOf, List.getElem_map]
    rw [tokOf_bump ((chk_zero hs).2.2.2 _ (List.getElem_mem hi)) hl hv]
    simp only [decide_eq_true_eq, mem_ins hi, mem_outs hi]
/-- may a node fire? -/
def may (N : Nat) (arcs : List Arc) (fired : List Int) (v : Int) : Bool := mayB N arcs (toksOf arcs fired) v
theorem may_iff {N : Nat} {arcs : List Arc} {fired : List Int} {v : Nat} : may N arcs fired v = true ↔ v < N ∧ ∀ a ∈ arcs, a.dst = v → a.take ≤ tokOf fired a := by
  have key : (∀ i ∈ ins arcs v, lacks arcs (toksOf arcs fired) i = false) ↔ ∀ a ∈ arcs, a.dst = v → a.take ≤ tokOf fired a := by
    constructor
    · intro h a ha hd
      obtain ⟨i, hi, rfl⟩ := List.getElem_of_mem ha
      have := h i ((mem_ins hi).2 hd)
      rw [lacks_at hi (by rw [toksOf_len]; exact hi)] at this
      simp [toksOf] at this
      exact this
    · intro h i hi
      have hil := ins_lt hi
      rw [lacks_at hil (by rw [toksOf_len]; exact hil)]
      have := h arcs[i] (List.getElem_mem hil) ((mem_ins hil).1 hi)
      simp [toksOf]
      exact this
  unfold may mayB
  rw [Bool.and_eq_true, decide_eq_true_eq, shortF_neg, Int.toNat_natCast, key, okNode_iff]
  constructor
  · rintro ⟨⟨_, h1⟩, h2⟩; exact ⟨by omega, h2⟩
  · rintro ⟨h1, h2⟩; exact ⟨⟨by omega, by omega⟩, h2⟩
theorem may_out {N : Nat} {arcs : List Arc} {fired : List Int} {v : Int} (h : may N arcs fired v = true) : ∃ u : Nat, v = u ∧ u < N := by
  unfold may mayB at h
  rw [Bool.and_eq_true, okNode_iff] at h
  exact ⟨v.toNat, by omega, by omega⟩
/-- Nodes fire one behind the other, up to the first that may not. -/
def fireRun (N : Nat) (arcs : List Arc) : List Int → List Int → Nat × List Int
  | [], f => (0, f)
  | v :: l, f => if may N arcs f v = true then ((fireRun N arcs l (bump f v.toNat)).1 + 1, (fireRun N arcs l (bump f v.toNat)).2) else (0, f)
/-- a state that may be -/
structure Good (N : Nat) (arcs : List Arc) (fired : List Int) (T : Nat) : Prop where
  len : fired.length = N
  lo : ∀ x ∈ fired, 0 ≤ x ∧ x ≤ T
  tok : ∀ a ∈ arcs, 0 ≤ tokOf fired a
theorem Good.at {N T : Nat} {arcs : List Arc} {fired : List Int} (g : Good N arcs fired T) (u : Nat) : 0 ≤ fired.getD u 0 ∧ fired.getD u 0 ≤ T := by
  rw [List.getD_eq_getElem?_getD]
  cases h : fired[u]? with
  | none => simp
  | some x => exact g.lo x (List.mem_of_getElem? h)
theorem Good.bump {N T : Nat} {arcs : List Arc} {fired : List Int} (g : Good N arcs fired T) (hs : chk N arcs = 0) {v : Nat} (hm : may N arcs fired v = true) : Good N arcs (bump fired v) (T + 1) := by
  obtain ⟨hv, hm⟩ := may_iff.1 hm
  refine ⟨by simp [Sx.bump, g.len], fun x hx => ?_, fun a ha => ?_⟩
  · have := g.at v
    rcases List.mem_or_eq_of_mem_set hx with hx | rfl
    · have := g.lo x hx; omega
    · omega
  · have hok := (chk_zero hs).2.2.2 a ha
    have hb := okArc_zero hok
    rw [tokOf_bump hok g.len hv]
    have h0 := g.tok a ha
    by_cases h2 : a.dst = v
    · have := hm a ha h2
      rw [if_pos h2]
      split <;> omega
    · rw [if_neg h2]
      split <;> omega
theorem Good.tok_le {N T : Nat} {arcs : List Arc} {fired : List Int} (g : Good N arcs fired T) (hs : chk N arcs = 0) {a : Arc} (ha : a ∈ arcs) : tokOf fired a ≤ 256 + 64 * T := by
  have hb := okArc_zero ((chk_zero hs).2.2.2 a ha)
  have h1 := g.at a.src.toNat
  have h2 := g.at a.dst.toNat
  obtain ⟨p0, p1⟩ := bnd_mul (x := a.give) (y := fired.getD a.src.toNat 0) (a := 64) (b := T) (by omega) (by omega) h1.1 h1.2
  obtain ⟨p2, p3⟩ := bnd_mul (x := a.take) (y := fired.getD a.dst.toNat 0) (a := 64) (b := T) (by omega) (by omega) h2.1 h2.2
  unfold tokOf
  omega
end Go.Sx
