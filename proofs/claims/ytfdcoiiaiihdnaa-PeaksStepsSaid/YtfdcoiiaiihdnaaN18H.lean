/- Layer 18: the three step functions. Conditions: none. -/
import Derived.Test.YtfdcoiiaiihdnaaN18G
namespace Go.Sx
open Go.Proofs
open Classical in
/-- the part of a partial heap on some blocks -/
noncomputable def Hp.on (h : Hp) (S : Nat → Prop) : Hp := fun j => if S j then h j else none
theorem Hp.on_le (h : Hp) (S : Nat → Prop) : (h.on S).le h := fun j o e => by
  unfold Hp.on at e; split at e
  · exact e
  · cases e
theorem Hp.on_of {h : Hp} {S : Nat → Prop} {j : Nat} (hj : S j) : h.on S j = h j := by unfold Hp.on; rw [if_pos hj]
theorem Hp.on_ne {h : Hp} {S : Nat → Prop} {j : Nat} (hj : h.on S j ≠ none) : S j := by
  unfold Hp.on at hj; split at hj
  · assumption
  · exact absurd rfl hj
theorem RowAt.on {h : Hp} {ety size n cap : Nat} {A : Option Addr} {xs : List Value} {S : Nat → Prop} (x : RowAt h ety size A n cap xs) (hS : ∀ g, A = some g → S g.block) : RowAt (h.on S) ety size A n cap xs := by
  obtain ⟨h1, h2⟩ := x
  refine ⟨h1, ?_⟩
  rcases h2 with h2 | ⟨b, cur, e1, e2, e3⟩
  · exact .inl h2
  · exact .inr ⟨b, cur, e1, by rw [Hp.on_of (hS _ e1)]; exact e2, e3⟩
theorem RowAt.one {n : Nat} {h : Hp} {A : Option Addr} {cap : Nat} {l : List Int} (x : RowAt h 3 1 A n cap (l.map iv)) : Tab h 1 A n (l.map fun z => [iv z]) := by
  rw [← flat_nums] at x; exact x.tab (ints_wid _) (by decide)
def rowCells (n : Nat) (J : Nat → Addr × Nat) (k : Nat) : List Value := (List.range k).map fun i => .slice (some (J i).1) n (J i).2
theorem rowCells_len (n : Nat) (J : Nat → Addr × Nat) (k : Nat) : (rowCells n J k).length = k := by simp [rowCells]
/-- A list of rows of numbers in memory of its own. -/
structure RowsAt (X : Hp) (n : Nat) (rows : List (List Int)) (A : Option Addr) (c : Nat) (J : Nat → Addr × Nat) : Prop where
  outer : RowAt X 25 1 A rows.length c (rowCells n J rows.length)
  inner : ∀ i (hi : i < rows.length), RowAt X 3 1 (some (J i).1) n (J i).2 (rows[i].map iv)
  apart : ∀ i j, i < rows.length → j < rows.length → i ≠ j → (J i).1.block ≠ (J j).1.block
  own : ∀ i, i < rows.length → ∀ g, A = some g → g.block ≠ (J i).1.block
def RAlong (n : Nat) (rows : List (List Int)) (v : Value) (X : Hp) : Prop := ∃ A c J, v = .slice A rows.length c ∧ RowsAt X n rows A c J
theorem rAlong_nil (n : Nat) : RAlong n [] (.slice none 0 0) Hp.empty :=
  ⟨none, 0, fun _ => (⟨0, 0, none⟩, 0), rfl, ⟨rfl, .inl ⟨rfl, rfl, rfl⟩⟩, (fun i hi => by simp at hi), (fun i j hi => by simp at hi), fun i hi => by simp at hi⟩
theorem next30 {n M : Nat} (hM : M ≤ 4096) : NextOk 30 (RAlong n) M n := by
  rintro rows v X h g c toks hlen ⟨A, cA, J, rfl, hX⟩ hle hXg hrow htl
  refine Fn.intro (args := [.slice A rows.length cA, .slice (some g) n c]) mix14 Try.func30 rfl (by decide) Try.ntmps30 rfl (low30 rfl) rfl ?_
  conv => whnf
  refine .abs 25 1 A rows.length cA _ (hX.outer.mono hle) (.done (.old 1 _ [.slice (some g) n c] rfl rfl (by simp; rfl) (by simp [maxLen]; omega) (by omega) fun A2 c2 hA2 => ?_))
  conv => whnf
  refine .pub 1 25 1 A2 (rows.length + 1) c2 _ rfl fun h' hle2 hr2 hf2 => .done ?_
  obtain ⟨g2, rfl⟩ : ∃ g2, A2 = some g2 := by
    cases A2 with
    | none => have := hA2.1.1 rfl; omega
    | some g2 => exact ⟨g2, rfl⟩
  have hdel : ∀ j o, X j = some o → (∀ g, A = some g → g.block ≠ j) → h' j = some o := fun j o e hne => by
    refine hle2 j o ?_
    cases A with
    | none => exact hle j o e
    | some gA => rw [delA, Hp.del_ne _ (fun q => hne gA rfl q.symm)]; exact hle j o e
  have hgA : ∀ gA, A = some gA → gA.block ≠ g.block := fun gA e q => hX.outer.mem e (by rw [q]; exact hXg)
  have hrow' : RowAt h' 3 1 (some g) n c (toks.map iv) := (hrow.del fun g1 g2 e1 e2 => by injection e1 with e1; subst e1; exact (hgA g2 e2).symm).mono hle2
  have hK : ∀ K : Hp, K.le h → Disj K X → K.le (delA h A) := fun K hk hd j o e => by
    cases A with
    | none => exact hk j o e
    | some gA => rw [delA, Hp.del_ne _ (fun q => by subst q; rw [hd _ (hX.outer.mem rfl)] at e; cases e)]; exact hk j o e
  have hg2 : ∀ i (hi : i < rows.length), g2.block ≠ (J i).1.block := fun i hi q => by
    have h1 := hf2 g2 rfl
    have h2 := (((hX.inner i hi).mono hle).del (B := A) fun g1 g3 e1 e2 => by injection e1 with e1; subst e1; exact (hX.own i hi g3 e2).symm).mem rfl
    rw [← q] at h2; exact h2 h1
  have hg2' : g2.block ≠ g.block := fun q => by
    have h1 := hf2 g2 rfl
    have h2 := (hrow.del (B := A) fun g1 g3 e1 e2 => by injection e1 with e1; subst e1; exact (hgA g3 e2).symm).mem rfl
    rw [← q] at h2; exact h2 h1
  have hXJ : ∀ i (hi : i < rows.length), (J i).1.block ≠ g.block := fun i hi q => (hX.inner i hi).mem rfl (by rw [q]; exact hXg)
  let J' : Nat → Addr × Nat := fun i => if i = rows.length then (g, c) else J i
  have hJ1 : J' rows.length = (g, c) := by simp [J']
  have hJ2 : ∀ i, i < rows.length → J' i = J i := fun i hi => by simp only [J']; rw [if_neg (by omega)]
  let S : Nat → Prop := fun j => j = g2.block ∨ j = g.block ∨ ∃ i, i < rows.length ∧ j = (J i).1.block
  have hcells : rowCells n J rows.length ++ [.slice (some g) n c] = rowCells n J' (rows.length + 1) := by
    simp only [rowCells, List.range_succ, List.map_append, List.map_cons, List.map_nil, hJ1]
    congr 1
    exact List.map_congr_left fun i hi => by rw [hJ2 i (List.mem_range.1 hi)]
  refine ⟨h'.on S, ⟨some g2, c2, J', by simp [oneVal], ?_, fun i hi => ?_, fun i j hi hj hij => ?_, fun i hi gq e => ?_⟩, Hp.on_le _ _, fun K hk hd hkg => ⟨Hp.le_trans (hK K hk hd) hle2, fun j hj => ?_⟩⟩
  · have hr2 : RowAt h' 25 1 (some g2) (rows.length + 1) c2 (rowCells n J rows.length ++ [.slice (some g) n c]) := hr2
    rw [hcells] at hr2
    simpa using hr2.on (S := S) fun q e => by injection e with e; subst e; exact .inl rfl
  · by_cases e : i = rows.length
    · subst e
      rw [hJ1]
      simpa using hrow'.on (S := S) fun q e => by injection e with e; subst e; exact .inr (.inl rfl)
    · have hi' : i < rows.length := by simp at hi; omega
      rw [hJ2 i hi', List.getElem_append_left hi']
      have hb := ((((hX.inner i hi').mono hle).del (B := A) fun g1 g3 e1 e2 => by injection e1 with e1; subst e1; exact (hX.own i hi' g3 e2).symm)).mono hle2
      exact hb.on fun q e => by injection e with e; subst e; exact .inr (.inr ⟨i, hi', rfl⟩)
  · have h1 : i < rows.length + 1 := by simpa using hi
    have h2 : j < rows.length + 1 := by simpa using hj
    by_cases e1 : i = rows.length
    · have e2 : j < rows.length := by omega
      rw [e1, hJ1, hJ2 j e2]; exact (hXJ j e2).symm
    · have e1' : i < rows.length := by omega
      by_cases e2 : j = rows.length
      · rw [e2, hJ1, hJ2 i e1']; exact hXJ i e1'
      · rw [hJ2 i e1', hJ2 j (by omega)]; exact hX.apart i j e1' (by omega) hij
  · injection e with e; subst e
    have h1 : i < rows.length + 1 := by simpa using hi
    by_cases e1 : i = rows.length
    · rw [e1, hJ1]; exact hg2'
    · rw [hJ2 i (by omega)]; exact hg2 i (by omega)
  · rcases Hp.on_ne hj with rfl | rfl | ⟨i, hi, rfl⟩
    · exact le_none (hK K hk hd) (hf2 g2 rfl)
    · exact hkg
    · exact hd _ ((hX.inner i hi).mem rfl)
end Go.Sx
