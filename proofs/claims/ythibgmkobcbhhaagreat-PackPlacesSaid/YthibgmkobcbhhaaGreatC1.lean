/- Blocks: when a list of them holds, in plain words. Conditions: none. -/
import Derived.Test.YthibgmkobcbhhaaGreatD1
namespace Go.Sx
def firedOf (l : List Blk) (v : Int) : Option Int := (l.find? fun b => decide (b.node = v)).map Blk.fired
def ok1 (N : Int) (b : Blk) : Bool := decide (0 ≤ b.node) && decide (b.node < N) && decide (0 ≤ b.fired) && decide (b.fired ≤ 4096)
def arcOf (arcs : List Arc) (b : Blk) : Option Arc := if 0 ≤ b.arc then arcs[b.arc.toNat]? else none
def ok2 (arcs : List Arc) (l : List Blk) (b : Blk) : Bool := match arcOf arcs b with
  | none => false
  | some a => decide (a.dst = b.node) && (firedOf l a.src).isSome
def loose1 (arcs : List Arc) (l : List Blk) (b : Blk) : Bool := match arcOf arcs b with
  | none => false
  | some a => decide (a.take * (b.fired + 1) ≤ a.start + a.give * (firedOf l a.src).getD 0)
def formed (N : Int) (arcs : List Arc) (l : List Blk) : Prop := l ≠ [] ∧ (∀ b ∈ l, ok1 N b = true) ∧ (l.map Blk.node).Nodup ∧ ∀ b ∈ l, ok2 arcs l b = true
instance (N : Int) (arcs : List Arc) (l : List Blk) : Decidable (formed N arcs l) := inferInstanceAs (Decidable (_ ∧ _ ∧ _ ∧ _))
/-- what is answered of a list of blocks of a sound net -/
def conf0 (N : Int) (arcs : List Arc) (l : List Blk) : Int := if formed N arcs l then (if l.any (loose1 arcs l) then 141 else 0) else 140

theorem firedOf_none {l : List Blk} {v : Int} : firedOf l v = none ↔ ∀ b ∈ l, b.node ≠ v := by
  simp [firedOf]
theorem firedOf_mem {l : List Blk} {v z : Int} (h : firedOf l v = some z) : ∃ b ∈ l, b.node = v ∧ b.fired = z := by
  simp only [firedOf, Option.map_eq_some_iff] at h
  obtain ⟨b, h1, h2⟩ := h
  exact ⟨b, List.mem_of_find?_eq_some h1, by simpa using List.find?_some h1, h2⟩
theorem firedOf_of {l : List Blk} (hn : (l.map Blk.node).Nodup) {b : Blk} (hb : b ∈ l) : firedOf l b.node = some b.fired := by
  induction l with
  | nil => cases hb
  | cons c l ih =>
    simp only [List.map_cons, List.nodup_cons] at hn
    by_cases e : c.node = b.node
    · rcases List.mem_cons.1 hb with rfl | hb
      · simp [firedOf]
      · exact absurd (List.mem_map.2 ⟨b, hb, e.symm⟩) hn.1
    · rcases List.mem_cons.1 hb with rfl | hb
      · exact absurd rfl e
      · have := ih hn.2 hb
        simp only [firedOf] at this ⊢
        rw [List.find?_cons_of_neg (by simpa using e)]
        exact this
theorem firedOf_append (l : List Blk) (b : Blk) (v : Int) : firedOf (l ++ [b]) v = (firedOf l v).or (if b.node = v then some b.fired else none) := by
  simp only [firedOf, List.find?_append]
  cases h : l.find? fun b => decide (b.node = v) with
  | none =>
    simp only [Option.none_or, Option.map_none, List.find?_cons, List.find?_nil]
    by_cases e : b.node = v <;> simp [e]
  | some c => simp

theorem ok1_iff {N : Int} {b : Blk} : ok1 N b = true ↔ 0 ≤ b.node ∧ b.node < N ∧ 0 ≤ b.fired ∧ b.fired ≤ 4096 := by
  simp [ok1, and_assoc]
/-- nodes that differ are no more than there are -/
theorem nodes_le {N : Int} {l : List Blk} (h1 : ∀ b ∈ l, ok1 N b = true) (hn : (l.map Blk.node).Nodup) : (l.length : Int) ≤ max N 0 := by
  have hsub : ∀ x ∈ (l.map fun b => b.node.toNat), x ∈ List.range N.toNat := by
    intro x hx
    obtain ⟨b, hb, rfl⟩ := List.mem_map.1 hx
    have := ok1_iff.1 (h1 b hb)
    rw [List.mem_range]; omega
  have hnd : (l.map fun b => b.node.toNat).Nodup := by
    have he : (l.map fun b => b.node.toNat) = (l.map Blk.node).map Int.toNat := by rw [List.map_map]; rfl
    rw [he]
    refine List.Pairwise.map _ ?_ (List.Pairwise.and_mem.1 hn)
    rintro a b ⟨ha, hb, hab⟩ e
    obtain ⟨x, hx, rfl⟩ := List.mem_map.1 ha
    obtain ⟨y, hy, rfl⟩ := List.mem_map.1 hb
    have := ok1_iff.1 (h1 x hx)
    have := ok1_iff.1 (h1 y hy)
    omega
  have := hnd.length_le_of_subset hsub
  simp at this
  omega
theorem bnd_mul {x y a b : Int} (hx : 0 ≤ x) (hxa : x ≤ a) (hy : 0 ≤ y) (hyb : y ≤ b) : 0 ≤ x * y ∧ x * y ≤ a * b :=
  ⟨Int.mul_nonneg hx hy, Int.mul_le_mul hxa hyb hy (Int.le_trans hx hxa)⟩
def findFrom (v : Int) : List Blk → Nat → Int
  | [], _ => -1
  | b :: l, i => if b.node = v then i else findFrom v l (i + 1)
theorem findFrom_none {v : Int} : ∀ (l : List Blk) (i : Nat), (∀ b ∈ l, b.node ≠ v) → findFrom v l i = -1
  | [], i, _ => rfl
  | b :: l, i, h => by rw [findFrom, if_neg (h b (by simp)), findFrom_none l (i + 1) fun c hc => h c (by simp [hc])]
theorem findFrom_some {v : Int} : ∀ (l : List Blk) (i : Nat) (z : Int), firedOf l v = some z → ∃ (j : Nat) (b : Blk), findFrom v l i = i + j ∧ l[j]? = some b ∧ b.node = v ∧ b.fired = z
  | [], i, z, h => by cases h
  | b :: l, i, z, h => by
    by_cases e : b.node = v
    · refine ⟨0, b, by rw [findFrom, if_pos e]; simp, rfl, e, ?_⟩
      simpa [firedOf, e] using h
    · have h' : firedOf l v = some z := by
        simpa only [firedOf, List.find?_cons_of_neg (l := l) (p := fun b => decide (b.node = v)) (a := b) (by simpa using e)] using h
      obtain ⟨j, c, h1, h2, h3, h4⟩ := findFrom_some l (i + 1) z h'
      exact ⟨j + 1, c, by rw [findFrom, if_neg e, h1]; omega, by simpa using h2, h3, h4⟩
theorem findFrom_ge {v : Int} (l : List Blk) (i : Nat) : (0 ≤ findFrom v l i) ↔ (firedOf l v).isSome = true := by
  cases h : firedOf l v with
  | none => rw [findFrom_none l i (firedOf_none.1 h)]; simp
  | some z =>
    obtain ⟨j, b, h1, _⟩ := findFrom_some l i z h
    rw [h1]; simp; omega
theorem findFrom_own {l : List Blk} (hn : (l.map Blk.node).Nodup) {i : Nat} {b : Blk} (hb : l[i]? = some b) : findFrom b.node l 0 = i := by
  have hm := List.mem_of_getElem? hb
  obtain ⟨j, c, h1, h2, h3, h4⟩ := findFrom_some l 0 b.fired (firedOf_of hn hm)
  obtain ⟨hi, hb⟩ := List.getElem?_eq_some_iff.1 hb
  obtain ⟨hj, hc⟩ := List.getElem?_eq_some_iff.1 h2
  have hp := List.pairwise_iff_getElem.1 hn
  have : j = i := by
    rcases Nat.lt_trichotomy j i with hlt | rfl | hlt
    · exact (hp j i (by simpa using hj) (by simpa using hi) hlt (by simp [hb, hc, h3])).elim
    · rfl
    · exact (hp i j (by simpa using hi) (by simpa using hj) hlt (by simp [hb, hc, h3])).elim
  rw [h1, this]; simp
theorem nodup_of_find {l : List Blk} (h : ∀ (i : Nat) (b : Blk), l[i]? = some b → findFrom b.node l 0 = i) : (l.map Blk.node).Nodup := by
  refine List.pairwise_iff_getElem.2 fun i j hi hj hij e => ?_
  simp only [List.length_map] at hi hj
  have h1 := h i l[i] (List.getElem?_eq_getElem hi)
  have h2 := h j l[j] (List.getElem?_eq_getElem hj)
  simp only [List.getElem_map] at e
  rw [e, h2] at h1
  omega
def wholeB (N : Int) (arcs : List Arc) (l : List Blk) (i : Nat) (b : Blk) : Bool := ok1 N b && decide (findFrom b.node l 0 = i) && ok2 arcs l b
theorem formed_whole {N : Int} {arcs : List Arc} {l : List Blk} (hN : 0 ≤ N) : formed N arcs l ↔ l ≠ [] ∧ (l.length : Int) ≤ N ∧ ∀ (i : Nat) (b : Blk), l[i]? = some b → wholeB N arcs l i b = true := by
  constructor
  · rintro ⟨h1, h2, h3, h4⟩
    have := nodes_le h2 h3
    refine ⟨h1, by omega, fun i b hb => ?_⟩
    have hm := List.mem_of_getElem? hb
    simp [wholeB, h2 b hm, h4 b hm, findFrom_own h3 hb]
  · rintro ⟨h1, _, h3⟩
    have key : ∀ (i : Nat) (b : Blk), l[i]? = some b → ok1 N b = true ∧ findFrom b.node l 0 = i ∧ ok2 arcs l b = true := fun i b hb => by
      have := h3 i b hb
      simp only [wholeB, Bool.and_eq_true, decide_eq_true_eq] at this
      exact ⟨this.1.1, this.1.2, this.2⟩
    refine ⟨h1, fun b hb => ?_, nodup_of_find fun i b hb => (key i b hb).2.1, fun b hb => ?_⟩
    · obtain ⟨i, hi⟩ := List.getElem?_of_mem hb
      exact (key i b hi).1
    · obtain ⟨i, hi⟩ := List.getElem?_of_mem hb
      exact (key i b hi).2.2
end Go.Sx
