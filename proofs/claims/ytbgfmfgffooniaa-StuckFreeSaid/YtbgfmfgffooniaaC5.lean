/- A family of rows in a partial heap, no two in one block. Conditions: none. -/
import Derived.Test.YtbgfmfgffooniaaS11
namespace Go.Sx
structure Fam (h0 h : Hp) (S : Nat → Prop) (J : Nat → Option Addr × Nat) (ct : Nat → List Nat) : Prop where
  le : h0.le h
  row : ∀ v, S v → RowAt h 3 1 (J v).1 (ct v).length (J v).2 ((idxRows (ct v)).flatten)
  new : ∀ v, S v → ∀ g, (J v).1 = some g → h0 g.block = none
  dist : ∀ v, S v → ∀ u, S u → v ≠ u → ∀ g g', (J v).1 = some g → (J u).1 = some g' → g.block ≠ g'.block
def updJ {α : Type} (J : Nat → α) (v : Nat) (x : α) : Nat → α := fun u => if u = v then x else J u
theorem RowAt.mem {h : Hp} {ety size n cap : Nat} {A : Option Addr} {xs : List Value} (x : RowAt h ety size A n cap xs) {g : Addr} (hg : A = some g) : h g.block ≠ none := by
  rcases x.2 with ⟨h1, _⟩ | ⟨b, cur, h1, h2, _⟩
  · rw [hg] at h1; cases h1
  · rw [hg] at h1; injection h1 with h1; subst h1; rw [h2]; simp
theorem RowAt.mono {h h' : Hp} {ety size n cap : Nat} {A : Option Addr} {xs : List Value} (x : RowAt h ety size A n cap xs) (hle : h.le h') : RowAt h' ety size A n cap xs := by
  obtain ⟨h1, h2⟩ := x
  refine ⟨h1, ?_⟩
  rcases h2 with h2 | ⟨b, cur, e1, e2, e3⟩
  · exact .inl h2
  · exact .inr ⟨b, cur, e1, hle _ _ e2, e3⟩
theorem RowAt.del {h : Hp} {ety size n cap : Nat} {A B : Option Addr} {xs : List Value} (x : RowAt h ety size A n cap xs) (hd : ∀ g g', A = some g → B = some g' → g.block ≠ g'.block) : RowAt (delA h B) ety size A n cap xs := by
  obtain ⟨h1, h2⟩ := x
  refine ⟨h1, ?_⟩
  rcases h2 with h2 | ⟨b, cur, e1, e2, e3⟩
  · exact .inl h2
  · refine .inr ⟨b, cur, e1, ?_, e3⟩
    cases B with
    | none => exact e2
    | some g' => rw [delA, Hp.del_ne _ (hd _ g' e1 rfl)]; exact e2
theorem delA_none {h0 h : Hp} {B : Option Addr} (hle : h0.le h) (hn : ∀ g, B = some g → h0 g.block = none) : h0.le (delA h B) := by
  cases B with
  | none => exact hle
  | some g =>
    intro j o e
    rw [delA, Hp.del_ne _ (fun q => by subst q; rw [hn g rfl] at e; cases e)]
    exact hle j o e
theorem delA_le (h : Hp) (B : Option Addr) : (delA h B).le h := by
  cases B with
  | none => exact Hp.le_refl h
  | some g => exact Hp.del_le h _
theorem Fam.del {h0 h : Hp} {S : Nat → Prop} {J : Nat → Option Addr × Nat} {ct : Nat → List Nat} (f : Fam h0 h S J ct) {v : Nat} (hv : S v) : Fam h0 (delA h (J v).1) (fun u => S u ∧ u ≠ v) J ct :=
  ⟨delA_none f.le (f.new v hv), fun u hu => (f.row u hu.1).del fun g g' h1 h2 => f.dist u hu.1 v hv hu.2 g g' h1 h2, fun u hu => f.new u hu.1, fun u hu w hw => f.dist u hu.1 w hw.1⟩
theorem Fam.add {h0 h h' : Hp} {S : Nat → Prop} {J : Nat → Option Addr × Nat} {ct : Nat → List Nat} (f : Fam h0 h S J ct) {v cap : Nat} {A : Option Addr} {l : List Nat} (hv : ¬ S v) (hle : h.le h') (hr : RowAt h' 3 1 A l.length cap (idxRows l).flatten) (hf : ∀ g, A = some g → h g.block = none) :
    Fam h0 h' (fun u => S u ∨ u = v) (updJ J v (A, cap)) (updJ ct v l) := by
  have hne : ∀ u, S u → u ≠ v := fun u hu e => hv (e ▸ hu)
  have blk : ∀ u, S u → ∀ g g', (J u).1 = some g → A = some g' → g.block ≠ g'.block := fun u hu g g' h1 h2 e => by
    have := (f.row u hu).mem h1
    rw [e, hf g' h2] at this
    exact this rfl
  refine ⟨Hp.le_trans f.le hle, fun u hu => ?_, fun u hu g hg => ?_, fun u hu w hw huw g g' h1 h2 => ?_⟩
  · by_cases e : u = v
    · subst e; simp only [updJ, if_true]; exact hr
    · simp only [updJ, if_neg e]; exact (f.row u (hu.resolve_right e)).mono hle
  · by_cases e : u = v
    · subst e
      simp only [updJ, if_true] at hg
      cases q : h0 g.block with
      | none => rfl
      | some o => have := f.le _ _ q; rw [hf g hg] at this; cases this
    · simp only [updJ, if_neg e] at hg; exact f.new u (hu.resolve_right e) g hg
  · by_cases e : u = v
    · subst e
      have e' : w ≠ u := fun q => huw q.symm
      simp only [updJ, if_true] at h1
      simp only [updJ, if_neg e'] at h2
      exact fun q => blk w (hw.resolve_right e') g' g h2 h1 q.symm
    · simp only [updJ, if_neg e] at h1
      by_cases e' : w = v
      · subst e'
        simp only [updJ, if_true] at h2
        exact blk u (hu.resolve_right e) g g' h1 h2
      · simp only [updJ, if_neg e'] at h2
        exact f.dist u (hu.resolve_right e) w (hw.resolve_right e') huw g g' h1 h2
theorem Fam.zero (h : Hp) (S : Nat → Prop) : Fam h h S (fun _ => (none, 0)) (fun _ => []) :=
  ⟨Hp.le_refl h, fun _ _ => ⟨rfl, .inl ⟨rfl, rfl, rfl⟩⟩, (fun _ _ g e => by cases e), (fun _ _ _ _ _ g g' e => by cases e)⟩
theorem Fam.same {h0 h : Hp} {S S' : Nat → Prop} {J : Nat → Option Addr × Nat} {ct : Nat → List Nat} (f : Fam h0 h S J ct) (hS : ∀ v, S' v → S v) : Fam h0 h S' J ct :=
  ⟨f.le, fun v hv => f.row v (hS v hv), fun v hv => f.new v (hS v hv), fun v hv u hu => f.dist v (hS v hv) u (hS u hu)⟩
end Go.Sx
