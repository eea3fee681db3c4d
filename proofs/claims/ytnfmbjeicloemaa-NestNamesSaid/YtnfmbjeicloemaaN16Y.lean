/- A nest in a block that goes round it: the plain law. Conditions: none. -/
import Derived.Test.YtnfmbjeicloemaaN16W
namespace Go.Sx
open Go.Proofs
theorem findF_deeper : ∀ (f : Fo) (d k : Nat), (findF f d k).1 = 0 → (d + 1 + deep f ≤ 16 → findF f (d + 1) k = findF f d k) ∧ (16 < d + 1 + deep f → f.leaf = false → d + deep f ≤ 16 → 1 ≤ deep f → (findF f (d + 1) k).1 = 161)
  | .nil, d, k, _ => ⟨fun _ => rfl, fun _ h => by cases h⟩
  | .cons t n b r, d, k, h => by
    simp only [findF] at h
    split at h
    · rename_i h1
      obtain ⟨r1, r2⟩ := findF_deeper r d _ h
      unfold oneF at h1
      split at h1
      · cases h1
      rename_i hk
      split at h1
      · cases h1
      rename_i hd
      split at h1
      · cases h1
      rename_i ht
      split at h1
      · rename_i hl
        split at h1
        · cases h1
        rename_i hn
        have e0 : ∀ d rb, oneF t n b.leaf d k rb = (0, k + 1) := fun d rb => by unfold oneF; rw [if_neg hk, if_neg (by rw [hl]; simp), if_neg ht, if_pos hl, if_neg hn]
        rw [e0] at r1 r2
        simp only [findF, e0]
        rw [if_pos trivial, if_pos trivial]
        simp only [deep, hl, cond_true]
        refine ⟨fun h2 => r1 (by omega), fun h2 _ h3 h4 => ?_⟩
        cases hr : r.leaf with
        | true => rw [leaf_nil hr] at h4; simp [deep] at h4
        | false => exact r2 (by omega) hr (by omega) (by omega)
      · rename_i hl
        split at h1
        · cases h1
        rename_i hn
        have hl' : b.leaf = false := by cases hq : b.leaf <;> simp_all
        have e0 : oneF t n b.leaf d k (findF b (d + 1) k) = findF b (d + 1) k := by unfold oneF; rw [if_neg hk, if_neg hd, if_neg ht, if_neg hl, if_neg hn]
        rw [e0] at r1 r2
        obtain ⟨b1, b2⟩ := findF_deeper b (d + 1) k h1
        by_cases h16 : 16 ≤ d + 1
        · have e1 : oneF t n b.leaf (d + 1) k (findF b (d + 1 + 1) k) = (161, k) := by unfold oneF; rw [if_neg hk, if_pos ⟨hl', h16⟩]
          simp only [findF, e0, e1]
          simp only [deep, hl', cond_false]
          exact ⟨fun h2 => by omega, fun _ _ _ _ => by simp⟩
        · have e1 : oneF t n b.leaf (d + 1) k (findF b (d + 1 + 1) k) = findF b (d + 1 + 1) k := by
            unfold oneF; rw [if_neg hk, if_neg (fun hh => h16 hh.2), if_neg ht, if_neg hl, if_neg hn]
          simp only [findF, e0, e1]
          simp only [deep, hl', cond_false]
          by_cases hbd : d + 1 + 1 + deep b ≤ 16
          · rw [b1 hbd, if_pos h1, if_pos h1]
            refine ⟨fun h2 => r1 (by omega), fun h2 _ h3 h4 => ?_⟩
            cases hr : r.leaf with
            | true => rw [leaf_nil hr] at h2; simp [deep] at h2; omega
            | false => exact r2 (by omega) hr (by omega) (by omega)
          · refine ⟨fun h2 => by omega, fun _ _ h3 _ => ?_⟩
            have hdb : 1 ≤ deep b := by omega
            have := b2 (by omega) hl' (by omega) hdb
            rw [if_neg (by rw [this]; decide)]
            exact this
    · rename_i h1; exact absurd h h1
theorem findF_up : ∀ (f : Fo) (d k : Nat), (findF f (d + 1) k).1 = 0 → findF f d k = findF f (d + 1) k
  | .nil, _, _, _ => rfl
  | .cons t n b r, d, k, h => by
    simp only [findF] at h
    split at h
    · rename_i h1
      have r1 := findF_up r d _ h
      have key : oneF t n b.leaf d k (findF b (d + 1) k) = oneF t n b.leaf (d + 1) k (findF b (d + 1 + 1) k) := by
        unfold oneF at h1
        split at h1
        · cases h1
        rename_i hk
        split at h1
        · cases h1
        rename_i hd
        split at h1
        · cases h1
        rename_i ht
        split at h1
        · rename_i hl
          unfold oneF
          simp only [hl, Bool.true_eq_false, false_and, if_false, if_true]
        · rename_i hl
          split at h1
          · cases h1
          rename_i hn
          have b1 := findF_up b (d + 1) k h1
          have hd' : ¬ (b.leaf = false ∧ 16 ≤ d) := fun hh => hd ⟨hh.1, by omega⟩
          unfold oneF
          rw [if_neg hk, if_neg hd', if_neg ht, if_neg hl, if_neg hn, if_neg hk, if_neg hd, if_neg ht, if_neg hl, if_neg hn]
          exact b1
      simp only [findF]
      rw [key, if_pos h1, if_pos h1]
      exact r1
    · rename_i h1; exact absurd h h1
/-- the check of a block that goes round a nest -/
theorem check_round {f : Fo} (hf : f.leaf = false) (k : Int) : (checkF f ≠ 0 → checkF (.cons k 0 f .nil) ≠ 0) ∧ (k < 1 → checkF (.cons k 0 f .nil) = 160) ∧
    (checkF f = 0 → 1 ≤ k → (16 ≤ deep f → checkF (.cons k 0 f .nil) = 161) ∧ (deep f < 16 → (2048 < k.toNat * tot f → checkF (.cons k 0 f .nil) = 5) ∧ (k.toNat * tot f ≤ 2048 → checkF (.cons k 0 f .nil) = 0))) := by
  have htot : tot (.cons k 0 f .nil) = k.toNat * tot f := by simp [tot, hf]
  have neg : k < 1 → findF (.cons k 0 f .nil) 0 0 = (160, 0) := fun hk => by
    have : oneF k 0 f.leaf 0 0 (findF f 1 0) = (160, 0) := by unfold oneF; rw [if_neg (by omega), if_neg (by omega), if_pos hk]
    simp only [findF, Nat.zero_add, this]
    rw [if_neg (by decide)]
  have pos : 1 ≤ k → (findF (.cons k 0 f .nil) 0 0).1 = (findF f 1 0).1 := fun hk => by
    have : oneF k 0 f.leaf 0 0 (findF f 1 0) = findF f 1 0 := by unfold oneF; rw [if_neg (by omega), if_neg (by omega), if_neg (by omega), if_neg (by rw [hf]; decide), if_neg (by decide)]
    simp only [findF, Nat.zero_add, this]
    split
    · rename_i h; exact h.symm
    · rfl
  refine ⟨fun h => ?_, fun hk => ?_, fun h hk => ?_⟩
  · by_cases hk : k < 1
    · unfold checkF
      rw [neg hk]
      simp
    · intro hc
      obtain ⟨a, b⟩ := checkF_ok hc
      rw [pos (by omega)] at a
      have e := findF_up f 0 0 a
      rw [htot] at b
      apply h
      unfold checkF
      rw [e, if_neg (by rw [a]; decide), if_neg ?_]
      have : 1 * tot f ≤ k.toNat * tot f := Nat.mul_le_mul_right _ (by omega)
      omega
  · unfold checkF
    rw [neg hk]
    simp
  · obtain ⟨a, b⟩ := checkF_ok h
    obtain ⟨p, q⟩ := findF_deeper f 0 0 a
    have hd := deep_le f 0 0 a (Nat.zero_le _)
    refine ⟨fun h1 => ?_, fun h1 => ?_⟩
    · have e := q (by omega) hf (by omega) (by omega)
      unfold checkF
      rw [pos hk, e]
      simp
    · have e := p (by omega)
      unfold checkF
      rw [pos hk, e, a, htot, if_neg (by decide)]
      exact ⟨fun h2 => by rw [if_pos h2], fun h2 => by rw [if_neg (by omega)]⟩
end Go.Sx
