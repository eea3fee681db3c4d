/- Two nests, one behind the other: the plain law. Conditions: none. -/
import Derived.Test.YtnfmbjeicloemaaN16X
namespace Go.Sx
open Go.Proofs
theorem findF_app (g : Fo) (d : Nat) : ∀ (f : Fo) (k : Nat), findF (f.app g) d k = if (findF f d k).1 = 0 then findF g d (findF f d k).2 else findF f d k
  | .nil, k => by simp [Fo.app, findF]
  | .cons t n b r, k => by
    simp only [Fo.app, findF]
    split
    · exact findF_app g d r _
    · rename_i h; rfl
theorem tot_app (g : Fo) : ∀ f : Fo, tot (f.app g) = tot f + tot g
  | .nil => by simp [Fo.app, tot]
  | .cons t n b r => by
    have := tot_app g r
    simp only [Fo.app, tot] at *
    omega
theorem firs_app (g : Fo) : ∀ f : Fo, firs (f.app g) = firs f + firs g
  | .nil => by simp [Fo.app, firs]
  | .cons t n b r => by
    have := firs_app g r
    simp only [Fo.app, firs] at *
    omega
theorem heads_app (g : Fo) : ∀ f : Fo, heads (f.app g) = heads f + heads g
  | .nil => by simp [Fo.app, heads]
  | .cons t n b r => by
    have := heads_app g r
    simp only [Fo.app, heads] at *
    omega
theorem deep_app (g : Fo) : ∀ f : Fo, deep (f.app g) = max (deep f) (deep g)
  | .nil => by simp [Fo.app, deep]
  | .cons t n b r => by
    have := deep_app g r
    simp only [Fo.app, deep] at *
    omega
theorem flat_app (g : Fo) : ∀ f : Fo, flat (f.app g) = flat f ++ flat g
  | .nil => rfl
  | .cons t n b r => by simp only [Fo.app, flat, flat_app g r, List.append_assoc]
theorem pos_app {g : Fo} : ∀ {f : Fo}, Pos (f.app g) ↔ Pos f ∧ Pos g
  | .nil => ⟨fun h => ⟨trivial, h⟩, fun h => h.2⟩
  | .cons t n b r => by
    have := pos_app (g := g) (f := r)
    simp only [Fo.app, Pos, this]
    constructor
    · rintro ⟨a, b, c, d⟩; exact ⟨⟨a, b, c⟩, d⟩
    · rintro ⟨⟨a, b, c⟩, d⟩; exact ⟨a, b, c, d⟩
theorem firs_pos : ∀ {f : Fo}, f.leaf = false → 1 ≤ firs f
  | .nil, h => by cases h
  | .cons t n b r, _ => by
    simp only [firs]
    cases hl : b.leaf with
    | true => simp only [cond_true]; omega
    | false => have := firs_pos hl; simp only [cond_false]; omega
/-- what passes with some leaves ahead passes with others, as long as there is room -/
theorem findF_shift : ∀ (f : Fo) (d k0 k : Nat), (findF f d k0).1 = 0 → k ≤ 2048 → (k + firs f ≤ 2048 → findF f d k = (0, k + firs f)) ∧ (2048 < k + firs f → (findF f d k).1 = 5)
  | .nil, d, k0, k, _, hk => ⟨fun _ => rfl, fun h => by simp only [firs] at h; omega⟩
  | .cons t n b r, d, k0, k, h, hk => by
    simp only [findF] at h
    split at h
    · rename_i h1
      by_cases hkb : 2048 ≤ k
      · have hf : 1 ≤ firs (.cons t n b r) := firs_pos rfl
        refine ⟨fun h2 => by omega, fun _ => ?_⟩
        have : oneF t n b.leaf d k (findF b (d + 1) k) = (5, k) := by unfold oneF; rw [if_pos hkb]
        simp only [findF, this]
        rw [if_neg (by decide)]
      · unfold oneF at h1
        split at h1
        · cases h1
        rename_i hk0
        split at h1
        · cases h1
        rename_i hd
        split at h1
        · cases h1
        rename_i ht
        split at h1
        · rename_i hl
          split at h1
          · cases h1
          rename_i hn
          have e0 : oneF t n b.leaf d k0 (findF b (d + 1) k0) = (0, k0 + 1) := by unfold oneF; rw [if_neg hk0, if_neg hd, if_neg ht, if_pos hl, if_neg hn]
          have e1 : oneF t n b.leaf d k (findF b (d + 1) k) = (0, k + 1) := by unfold oneF; rw [if_neg hkb, if_neg hd, if_neg ht, if_pos hl, if_neg hn]
          rw [e0] at h
          obtain ⟨i1, i2⟩ := findF_shift r d _ (k + 1) h (by omega)
          simp only [findF, e1]
          rw [if_pos trivial]
          simp only [firs, hl, cond_true]
          refine ⟨fun h2 => ?_, fun h2 => ?_⟩
          · rw [i1 (by omega), show k + 1 + firs r = k + (1 + firs r) by omega]
          · exact i2 (by omega)
        · rename_i hl
          split at h1
          · cases h1
          rename_i hn
          have hl' : b.leaf = false := by cases hq : b.leaf <;> simp_all
          have e0 : oneF t n b.leaf d k0 (findF b (d + 1) k0) = findF b (d + 1) k0 := by unfold oneF; rw [if_neg hk0, if_neg hd, if_neg ht, if_neg hl, if_neg hn]
          have e1 : oneF t n b.leaf d k (findF b (d + 1) k) = findF b (d + 1) k := by unfold oneF; rw [if_neg hkb, if_neg hd, if_neg ht, if_neg hl, if_neg hn]
          rw [e0] at h
          obtain ⟨j1, j2⟩ := findF_shift b (d + 1) k0 k h1 hk
          simp only [findF, e1]
          simp only [firs, hl', cond_false]
          by_cases hb : k + firs b ≤ 2048
          · obtain ⟨i1, i2⟩ := findF_shift r d _ (k + firs b) h hb
            rw [j1 hb, if_pos rfl]
            refine ⟨fun h2 => ?_, fun h2 => i2 (by omega)⟩
            rw [i1 (by omega), show k + firs b + firs r = k + (firs b + firs r) by omega]
          · rw [if_neg (by rw [j2 (by omega)]; decide)]
            exact ⟨fun h2 => by omega, fun _ => j2 (by omega)⟩
    · rename_i h1; exact absurd h h1
theorem findF_two {f : Fo} {d k : Nat} (h : (findF f d k).1 = 0) (hk : k ≤ 2048) : findF f d k = (0, k + firs f) ∧ k + firs f ≤ 2048 := by
  obtain ⟨h1, h2⟩ := findF_shift f d k k h hk
  by_cases hb : k + firs f ≤ 2048
  · exact ⟨h1 hb, hb⟩
  · rw [h2 (by omega)] at h; cases h
/-- both checks and the check of both -/
theorem check_app (f g : Fo) : (checkF (f.app g) = 0 → checkF f = 0 ∧ checkF g = 0) ∧ (checkF f ≠ 0 → checkF f ≠ 5 → checkF (f.app g) = checkF f) ∧
    (checkF f = 0 → checkF g = 0 → (2048 < tot f + tot g → checkF (f.app g) = 5) ∧ (tot f + tot g ≤ 2048 → checkF (f.app g) = 0)) := by
  refine ⟨fun h => ?_, fun h1 h2 => ?_, fun h1 h2 => ?_⟩
  · obtain ⟨a, b⟩ := checkF_ok h
    rw [findF_app] at a
    rw [tot_app] at b
    split at a
    · rename_i hf
      obtain ⟨e, _⟩ := findF_two hf (Nat.zero_le _)
      rw [e] at a
      obtain ⟨e2, hle⟩ := findF_two a (by have := findF_le f 0 0 (Nat.zero_le _); rw [e] at this; exact this)
      have e3 := (findF_shift g 0 _ 0 a (Nat.zero_le _)).1 (by omega)
      exact ⟨by unfold checkF; rw [if_neg (by rw [hf]; decide), if_neg (by omega)], by unfold checkF; rw [if_neg (by rw [e3]; simp), if_neg (by omega)]⟩
    · rename_i hf; exact absurd a hf
  · have hf : (findF f 0 0).1 ≠ 0 := fun e => by
      unfold checkF at h1 h2
      rw [if_neg (by rw [e]; decide)] at h1 h2
      split at h2
      · exact h2 rfl
      · rename_i hx; rw [if_neg hx] at h1; exact h1 rfl
    unfold checkF
    rw [findF_app, if_neg hf, if_pos hf, if_pos hf]
  · obtain ⟨a1, a2⟩ := checkF_ok h1
    obtain ⟨b1, b2⟩ := checkF_ok h2
    obtain ⟨e1, e2⟩ := findF_two a1 (Nat.zero_le _)
    obtain ⟨s1, s2⟩ := findF_shift g 0 0 (0 + firs f) b1 e2
    have pf := firs_tot f (findF_pos _ _ _ a1)
    have pg := firs_tot g (findF_pos _ _ _ b1)
    refine ⟨fun h3 => ?_, fun h3 => ?_⟩
    · unfold checkF
      rw [findF_app, e1, if_pos rfl, tot_app]
      by_cases hb : 0 + firs f + firs g ≤ 2048
      · rw [s1 hb, if_neg (by simp), if_pos h3]
      · have := s2 (by omega)
        simp only at this ⊢
        rw [if_pos (by rw [this]; decide), this]
    · unfold checkF
      rw [findF_app, e1, if_pos rfl, tot_app, s1 (by omega), if_neg (by simp), if_neg (by omega)]
theorem sizeF_ok {f : Fo} (h : checkF f = 0) {a b c d : Nat} (hs : sizeF f = sizeV a b c d) : a = firs f ∧ b = heads f ∧ c = deep f ∧ d = tot f := by
  refine size_inj (hs.symm.trans ?_)
  unfold sizeF
  rw [if_pos h]
theorem sizeF_no {f : Fo} (h : checkF f ≠ 0) {a b c d : Nat} (hs : sizeF f = sizeV a b c d) : a = 0 ∧ b = 0 ∧ c = 0 ∧ d = 0 := by
  refine size_inj (hs.symm.trans ?_)
  unfold sizeF
  rw [if_neg h]
end Go.Sx
