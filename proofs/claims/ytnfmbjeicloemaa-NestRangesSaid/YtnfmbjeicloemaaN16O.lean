/- Rows of numbers in a partial heap: what else is needed. Conditions: none. -/
import Derived.Test.YtnfmbjeicloemaaN16K
namespace Go.Sx
open Go.Proofs
theorem take_succ' {α : Type} {l : List α} {i : Nat} (hi : i < l.length) : l.take (i + 1) = l.take i ++ [l[i]] := by
  rw [List.take_append_getElem]
theorem le_none {a b : Hp} (x : a.le b) {j : Nat} (h : b j = none) : a j = none := by
  cases e : a j with
  | none => rfl
  | some o => rw [x j o e] at h; cases h
theorem mix14 : Try.prog.follows .mixedOrders = true := mix16
theorem over_one {α : Type} : ∀ (l : List α) (off : Nat) (v : α), off < l.length → over l off [v] = some (l.set off v)
  | [], off, v, h => by simp at h
  | x :: l, 0, v, _ => by cases l <;> simp [over]
  | x :: l, off + 1, v, h => by simp only [over, over_one l off v (by simpa using h), List.set_cons_succ]
theorem RowAt.write {h : Hp} {ety size n cap off : Nat} {A : Option Addr} {xs : List Value} (x : RowAt h ety size A n cap xs) (ho : off < n * size) (v : Value) :
    ∃ g cs cs', A = some ⟨g, 0, none⟩ ∧ h g = some (.cells cs.toArray ety (0, 0)) ∧ over cs off [v] = some cs' ∧ RowAt (h.put g (.cells cs'.toArray ety (0, 0))) ety size A n cap (xs.set off v) := by
  obtain ⟨h1, h2⟩ := x
  rcases h2 with ⟨_, h2, _⟩ | ⟨g, cur, q1, q2, q3, q4, q5, q6⟩
  · subst h2; omega
  · have hle : n * size ≤ cap * size := Nat.mul_le_mul_right size q3
    refine ⟨g, cur.toList, cur.toList.set off v, q1, by simpa using q2, over_one _ _ _ (by simp; omega), by simpa using h1, .inr ⟨g, (cur.toList.set off v).toArray, q1, Hp.put_same _ _ _, q3, q4, by simpa using q5, ?_⟩⟩
    rw [← q6]
    simp only [List.take_set]
theorem nums_one (l : List Int) : ∀ u ∈ l.map iv, u.oneCell' = true := by
  intro u hu
  obtain ⟨z, _, rfl⟩ := List.mem_map.1 hu
  rfl
def updJ {α : Type} (J : Nat → α) (v : Nat) (x : α) : Nat → α := fun u => if u = v then x else J u
open Classical in
noncomputable def Hp.on (h : Hp) (S : Nat → Prop) : Hp := fun j => if S j then h j else none
theorem Hp.on_le (h : Hp) (S : Nat → Prop) : (h.on S).le h := fun j o e => by
  unfold Hp.on at e; split at e
  · exact e
  · cases e
theorem Hp.on_of {h : Hp} {S : Nat → Prop} {j : Nat} (hj : S j) : h.on S j = h j := by unfold Hp.on; rw [if_pos hj]
theorem Hp.on_ne {h : Hp} {S : Nat → Prop} {j : Nat} (hj : h.on S j ≠ none) : S j := by
  unfold Hp.on at hj; split at hj
  · assumption
  · exact absurd rfl hj
theorem RowAt.on {h : Hp} {ety size n cap : Nat} {A : Option Addr} {xs : List Value} {S : Nat → Prop} (x : RowAt h ety size A n cap xs) (hS : ∀ g, A = some g → S g.block) : RowAt (h.on S) ety size A n cap xs := by
  obtain ⟨h1, h2⟩ := x
  refine ⟨h1, ?_⟩
  rcases h2 with h2 | ⟨b, cur, e1, e2, e3⟩
  · exact .inl h2
  · exact .inr ⟨b, cur, e1, by rw [Hp.on_of (hS _ e1)]; exact e2, e3⟩
theorem RowAt.one {n : Nat} {h : Hp} {A : Option Addr} {cap : Nat} {l : List Int} (x : RowAt h 3 1 A n cap (l.map iv)) : Tab h 1 A n (l.map fun z => [iv z]) := by
  rw [← flat_nums] at x; exact x.tab (ints_wid _) (by decide)
end Go.Sx
