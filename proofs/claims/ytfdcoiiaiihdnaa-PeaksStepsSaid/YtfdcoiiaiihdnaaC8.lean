/- Layer 18: the greatest numbers of a list of rows, in plain words. Conditions: none. -/
import Derived.Test.YtfdcoiiaiihdnaaN18K
namespace Go.Sx
theorem getD_zip {a b : List Int} {n i : Nat} (ha : a.length = n) (hb : b.length = n) (hi : i < n) : (List.zipWith max a b).getD i 0 = max (a.getD i 0) (b.getD i 0) := by
  simp [List.getD_eq_getElem?_getD, List.getElem?_zipWith, List.getElem?_eq_getElem (show i < a.length by omega), List.getElem?_eq_getElem (show i < b.length by omega)]
theorem fold_len {n : Nat} : ∀ (rs : List (List Int)) (r : List Int), r.length = n → (∀ x ∈ rs, x.length = n) → (rs.foldl (fun a b => List.zipWith max a b) r).length = n
  | [], r, h, _ => h
  | x :: rs, r, h, hx => fold_len rs _ (by simp [h, hx x (by simp)]) fun y hy => hx y (by simp [hy])
theorem fold_ge {n i : Nat} (hi : i < n) : ∀ (rs : List (List Int)) (r : List Int), r.length = n → (∀ x ∈ rs, x.length = n) →
    r.getD i 0 ≤ (rs.foldl (fun a b => List.zipWith max a b) r).getD i 0 ∧ (∀ x ∈ rs, x.getD i 0 ≤ (rs.foldl (fun a b => List.zipWith max a b) r).getD i 0) ∧
    (r.getD i 0 = (rs.foldl (fun a b => List.zipWith max a b) r).getD i 0 ∨ ∃ x ∈ rs, x.getD i 0 = (rs.foldl (fun a b => List.zipWith max a b) r).getD i 0)
  | [], r, h, _ => ⟨Int.le_refl _, by simp, .inl rfl⟩
  | x :: rs, r, h, hx => by
    have hxl := hx x (by simp)
    have hz := getD_zip h hxl hi
    obtain ⟨h1, h2, h3⟩ := fold_ge hi rs (List.zipWith max r x) (by simp [h, hxl]) fun y hy => hx y (by simp [hy])
    rw [hz] at h1 h3
    refine ⟨by simp only [List.foldl_cons]; omega, fun y hy => ?_, ?_⟩
    · rcases List.mem_cons.1 hy with rfl | hy
      · simp only [List.foldl_cons]; omega
      · exact h2 y hy
    · rcases h3 with h3 | ⟨y, hy, h3⟩
      · by_cases q : x.getD i 0 ≤ r.getD i 0
        · left; simp only [List.foldl_cons]; omega
        · right; exact ⟨x, by simp, by simp only [List.foldl_cons]; omega⟩
      · exact .inr ⟨y, by simp [hy], h3⟩
theorem maxes_len {n : Nat} {rows : List (List Int)} (h : rows ≠ []) (hl : ∀ x ∈ rows, x.length = n) : (maxes rows).length = n := by
  cases rows with
  | nil => exact absurd rfl h
  | cons r rs => exact fold_len rs r (hl r (by simp)) fun x hx => hl x (by simp [hx])
theorem maxes_ge {n i : Nat} {rows : List (List Int)} (hi : i < n) (hl : ∀ x ∈ rows, x.length = n) : ∀ x ∈ rows, x.getD i 0 ≤ (maxes rows).getD i 0 := by
  cases rows with
  | nil => simp
  | cons r rs =>
    obtain ⟨h1, h2, _⟩ := fold_ge hi rs r (hl r (by simp)) fun x hx => hl x (by simp [hx])
    intro x hx
    rcases List.mem_cons.1 hx with rfl | hx
    · exact h1
    · exact h2 x hx
theorem maxes_hit {n i : Nat} {rows : List (List Int)} (h : rows ≠ []) (hi : i < n) (hl : ∀ x ∈ rows, x.length = n) : ∃ x ∈ rows, x.getD i 0 = (maxes rows).getD i 0 := by
  cases rows with
  | nil => exact absurd rfl h
  | cons r rs =>
    obtain ⟨_, _, h3⟩ := fold_ge hi rs r (hl r (by simp)) fun x hx => hl x (by simp [hx])
    rcases h3 with h3 | ⟨x, hx, h3⟩
    · exact ⟨r, by simp, h3⟩
    · exact ⟨x, by simp [hx], h3⟩
theorem home_rows {N : Int} {arcs : List Arc} {zs : List Int} {rows : List (List Int)} (he : (along N arcs zs).1 = 0) (hr : (along N arcs zs).2 = rows) : homeOf N arcs zs = decide (rows.getD 0 [] = rows.getD (rows.length - 1) []) := by
  have hne := along_ne he
  rw [hr] at hne
  rw [homeOf, hr, decide_eq_true he, Bool.true_and]
  congr 1
  cases rows with
  | nil => exact absurd rfl hne
  | cons r rs => simp [List.getLastD_eq_getLast?, List.getLast?_eq_getElem?, List.getD_eq_getElem?_getD]
/-- has one of the first k rows that number at i? -/
def hit (rows : List (List Int)) (m : Int) (i k : Nat) : Bool := (rows.take k).any fun x => decide (x.getD i 0 = m)
theorem hit_zero (rows : List (List Int)) (m : Int) (i : Nat) : hit rows m i 0 = false := by simp [hit]
theorem hit_step {rows : List (List Int)} {m : Int} {i k : Nat} (hk : k < rows.length) : hit rows m i (k + 1) = (hit rows m i k || decide ((rows.getD k []).getD i 0 = m)) := by
  have e : rows.getD k [] = rows[k] := by rw [List.getD_eq_getElem?_getD, List.getElem?_eq_getElem hk]; rfl
  unfold hit
  rw [take_succ' hk, List.any_append, e]; simp
theorem hit_all {n i : Nat} {rows : List (List Int)} (h : rows ≠ []) (hi : i < n) (hl : ∀ x ∈ rows, x.length = n) : hit rows ((maxes rows).getD i 0) i rows.length = true := by
  obtain ⟨x, hx, e⟩ := maxes_hit h hi hl
  unfold hit
  rw [List.take_length, List.any_eq_true]
  exact ⟨x, hx, by simpa using e⟩
end Go.Sx
