/- Layer 18: from row to row, in plain words. Conditions: none. -/
import Derived.Test.YtfdcoiiaiihdnaaC9
namespace Go.Sx
theorem alongR_err {N : Nat} {arcs : List Arc} : ∀ (zs f : List Int), (alongR N arcs zs f).1 ≠ 0 → ((alongR N arcs zs f).1 = 100 ∨ (alongR N arcs zs f).1 = 180) ∧ (fireRun N arcs zs f).1 < zs.length
  | [], f, h => absurd rfl h
  | v :: zs, f, h => by
    rw [alongR] at h ⊢
    rw [fireRun]
    by_cases h1 : v < 0 ∨ (N : Int) ≤ v
    · rw [if_pos h1]
      have hm : may N arcs f v ≠ true := fun q => by
        obtain ⟨u, hu, hN⟩ := may_out q
        omega
      rw [if_neg hm]
      exact ⟨.inl rfl, by simp⟩
    · rw [if_neg h1] at h ⊢
      by_cases h2 : may N arcs f v = true
      · rw [if_pos h2] at h ⊢
        rw [if_pos h2]
        obtain ⟨q1, q2⟩ := alongR_err zs _ h
        exact ⟨q1, by simp; omega⟩
      · rw [if_neg h2]
        rw [if_neg h2]
        exact ⟨.inr rfl, by simp⟩
theorem fireRun_all {N : Nat} {arcs : List Arc} : ∀ (zs f : List Int), (alongR N arcs zs f).1 = 0 → fireRun N arcs zs f = (zs.length, endOf zs f)
  | [], f, _ => rfl
  | v :: zs, f, h => by
    rw [alongR] at h
    rw [fireRun]
    by_cases h1 : v < 0 ∨ (N : Int) ≤ v
    · rw [if_pos h1] at h; cases h
    · rw [if_neg h1] at h
      by_cases h2 : may N arcs f v = true
      · rw [if_pos h2] at h ⊢
        rw [fireRun_all zs _ h]
        rfl
      · rw [if_neg h2] at h; cases h
theorem along_row {N : Int} {arcs : List Arc} {zs : List Int} (h : (along N arcs zs).1 = 0) {k : Nat} (hk : k ≤ zs.length) : (along N arcs zs).2.getD k [] = toksOf arcs (endOf (zs.take k) (List.replicate N.toNat 0)) := by
  obtain ⟨h1, h2, h3, h4⟩ := along_parts h
  have ht := alongR_take zs _ k h3
  obtain ⟨q1, q2⟩ := alongR_all (zs.take k) (List.replicate N.toNat 0) (by rw [ht])
  rw [ht, List.length_take, Nat.min_eq_left hk] at q2
  rw [h4, ← q2]
  cases k with
  | zero => rfl
  | succ k => simp only [List.getD_eq_getElem?_getD, List.getElem?_cons_succ, List.getElem?_take, if_pos (Nat.lt_succ_self k)]
theorem endOf_snoc (zs f : List Int) (v : Int) : endOf (zs ++ [v]) f = bump (endOf zs f) v.toNat := by simp [endOf]
theorem along_may {N : Nat} {arcs : List Arc} {zs : List Int} (h : (along N arcs zs).1 = 0) {k : Nat} (hk : k < zs.length) : may N arcs (endOf (zs.take k) (List.replicate N 0)) zs[k] = true ∧ Good N arcs (endOf (zs.take k) (List.replicate N 0)) k := by
  obtain ⟨h1, h2, h3, h4⟩ := along_parts h
  rw [Int.toNat_natCast] at h3
  have hpre : ∀ j, j ≤ zs.length → (alongR N arcs (zs.take j) (List.replicate N 0)).1 = 0 := fun j _ => by rw [alongR_take zs _ j h3]
  have key := hpre (k + 1) (by omega)
  have hk0 := hpre k (by omega)
  rw [take_succ' hk, alongR_append _ _ hk0] at key
  have hm : may N arcs (endOf (zs.take k) (List.replicate N 0)) zs[k] = true := by
    rw [alongR] at key
    by_cases c1 : zs[k] < 0 ∨ (N : Int) ≤ zs[k]
    · rw [if_pos c1] at key; cases key
    · rw [if_neg c1] at key
      by_cases c2 : may N arcs (endOf (zs.take k) (List.replicate N 0)) zs[k] = true
      · exact c2
      · rw [if_neg c2] at key; cases key
  have hg := run_good h1 (zs.take k) (List.replicate N 0) 0 (good_zero h1)
  rw [fireRun_all _ _ hk0, List.length_take, Nat.min_eq_left (by omega), Nat.zero_add] at hg
  exact ⟨hm, hg⟩
/-- the number that an arc has at moment k -/
def atK (N : Nat) (zs : List Int) (a : Arc) (k : Nat) : Int := tokOf (endOf (zs.take k) (List.replicate N 0)) a
theorem atK_zero (N : Nat) (zs : List Int) (a : Arc) : atK N zs a 0 = a.start := by
  have : ∀ i : Nat, (List.replicate N (0 : Int)).getD i 0 = 0 := fun i => by
    rw [List.getD_eq_getElem?_getD, List.getElem?_replicate]
    split <;> rfl
  unfold atK
  rw [List.take_zero]
  show tokOf (List.replicate N 0) a = _
  unfold tokOf; rw [this, this]; omega
theorem atK_step {N : Nat} {arcs : List Arc} {zs : List Int} (h : (along N arcs zs).1 = 0) {k : Nat} (hk : k < zs.length) {a : Arc} (ha : a ∈ arcs) :
    atK N zs a (k + 1) = atK N zs a k - (if a.dst = zs[k] then a.take else 0) + (if a.src = zs[k] then a.give else 0) ∧ 0 ≤ atK N zs a k ∧ atK N zs a k ≤ 256 + 64 * k ∧ (a.dst = zs[k] → a.take ≤ atK N zs a k) := by
  obtain ⟨hm, hg⟩ := along_may h hk
  obtain ⟨h1, _⟩ := along_parts h
  obtain ⟨u, hu, huN⟩ := may_out hm
  have hok := (chk_zero h1).2.2.2 a ha
  refine ⟨?_, hg.tok a ha, hg.tok_le h1 ha, fun hd => ?_⟩
  · unfold atK
    rw [take_succ' hk, endOf_snoc, hu, Int.toNat_natCast, tokOf_bump hok hg.len huN]
  · rw [hu] at hm hd
    exact (may_iff.1 hm).2 a ha hd
theorem atK_last {N : Nat} {arcs : List Arc} {zs : List Int} (h : (along N arcs zs).1 = 0) {k : Nat} (hk : k ≤ zs.length) {a : Arc} (ha : a ∈ arcs) : 0 ≤ atK N zs a k ∧ atK N zs a k ≤ 256 + 64 * k := by
  obtain ⟨h1, h2, h3, h4⟩ := along_parts h
  rw [Int.toNat_natCast] at h3
  have hg := run_good h1 (zs.take k) (List.replicate N 0) 0 (good_zero h1)
  rw [fireRun_all _ _ (by rw [alongR_take zs _ k h3]), List.length_take, Nat.min_eq_left (by omega), Nat.zero_add] at hg
  exact ⟨hg.tok a ha, hg.tok_le h1 ha⟩
end Go.Sx
