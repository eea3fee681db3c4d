/- Small facts that the laws share. Conditions: none. -/
import Derived.Test.YtnfmbjeicloemaaN16V
namespace Go.Sx
open Go.Proofs
theorem RowAt.srcn {h : Hp} {n c : Nat} {D : Option Addr} {q : List Int} (x : RowAt h 3 1 D n c (q.map iv)) (L : List LE) : Src L h 1 D n (q.map iv) := by
  have t := x.nums.src L
  rw [flat_nums] at t
  exact t
theorem put_none_ {h : Hp} {b j : Nat} {o : Obj} (hj : h.put b o j = none) : j ≠ b ∧ h j = none := by
  by_cases e : j = b
  · subst e; rw [Hp.put_same] at hj; cases hj
  · exact ⟨e, by rw [Hp.put_ne _ _ e] at hj; exact hj⟩
theorem cell0 {h : Hp} {b ty : Nat} {v : Value} (hb : h b = some (.cells [v].toArray ty (0, 0))) : h.cell? ⟨b, 0, none⟩ = some v := lit_cell hb rfl
theorem le_put2 {hB h : Hp} {b : Nat} {o : Obj} (hle : hB.le h) (hb : hB b = none) : hB.le (h.put b o) := fun j o' e => by
  rw [Hp.put_ne _ _ (fun q => by rw [q, hb] at e; cases e)]; exact hle j o' e
theorem pre_at {pre xs : List Int} {x : Int} (h : pre ++ [x] <+: xs) : ∃ hl : pre.length < xs.length, xs[pre.length] = x := by
  obtain ⟨r, rfl⟩ := h
  exact ⟨by simp, by simp⟩
theorem firs_tot : ∀ f : Fo, Pos f → firs f ≤ tot f
  | .nil, _ => Nat.le_refl _
  | .cons t n b r, ⟨h1, h2, h3⟩ => by
    have i2 := firs_tot r h3
    have i1 := firs_tot b h2
    have hi := ins_pos h2
    have q2 : 1 * ins b ≤ t.toNat * ins b := Nat.mul_le_mul_right _ (by omega)
    rw [tot_cons]
    simp only [firs]
    unfold ins at *
    cases hl : b.leaf <;> simp only [hl, cond_true, cond_false] at * <;> omega
theorem deep_le : ∀ (f : Fo) (d k : Nat), (findF f d k).1 = 0 → d ≤ 16 → d + deep f ≤ 16
  | .nil, _, _, _, hd => by simp only [deep]; omega
  | .cons t n b r, d, k, h, hd => by
    simp only [findF] at h
    split at h
    · rename_i h1
      have i2 := deep_le r d _ h hd
      simp only [deep]
      cases hl : b.leaf with
      | true => simp only [cond_true]; omega
      | false =>
        simp only [cond_false]
        have : d + 1 + deep b ≤ 16 := by
          rw [hl] at h1
          unfold oneF at h1
          repeat' split at h1
          all_goals first | (simp at h1; done) | skip
          · contradiction
          · rename_i hx _ _ _
            exact deep_le b (d + 1) k h1 (by simp at hx; omega)
        omega
    · rename_i h1; exact absurd h h1
theorem tot_zero {f : Fo} (h : Pos f) : (f.len = 0) ↔ (tot f = 0) := by
  cases f with
  | nil => exact ⟨fun _ => rfl, fun _ => rfl⟩
  | cons t n b r =>
    have := tot_pos _ h rfl
    exact ⟨fun e => by simp [Fo.len] at e, fun e => by omega⟩
theorem size_inj {a b c d a' b' c' d' : Nat} (h : sizeV a b c d = sizeV a' b' c' d') : a = a' ∧ b = b' ∧ c = c' ∧ d = d' := by
  simp only [sizeV, iv, List.cons.injEq, Value.int.injEq, true_and, and_true] at h
  omega
end Go.Sx
