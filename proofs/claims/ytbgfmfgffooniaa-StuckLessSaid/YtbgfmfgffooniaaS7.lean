/- Layer 14: a net's copy that may be written. Conditions: none. -/
import Derived.Test.YtbgfmfgffooniaaS6
import Derived.Test.YtbgfmfgffooniaaC3
namespace Go.Sx
open Go.Proofs
theorem Hp.le_put_of {h h' : Hp} {b : Nat} {o : Obj} (x : h.le h') (hb : h b = none) : h.le (h'.put b o) := fun j o' e => by
  rw [Hp.put_ne _ _ (fun q => by rw [q, hb] at e; cases e)]
  exact x j o' e
theorem net10r (N : Int) (A : Option Addr) (n cap : Nat) (l : List Arc) (h : Hp) (ht : Tab h 5 A n (l.map Arc.cells)) (hn : n * 40 ≤ 140737488355328) :
    Fn Try.prog 10 #[netV N A n cap] h fun r h' => h.le h' ∧ ∃ A' cap', r = netV N A' n cap' ∧ RowAt h' 39 5 A' n cap' (l.map Arc.cells).flatten ∧ ∀ g, A' = some g → h g.block = none := by
  refine Fn.intro (args := [netV N A n cap]) mix14 Try.func10 rfl (by decide) Try.ntmps10 rfl (low10 rfl) rfl ?_
  conv => whnf
  refine .done (.fresh _ rfl rfl rfl (ht.src _) (arcs_one l) (by simp [maxLen]; omega) hn fun A' cap' hA => ?_)
  conv => whnf
  refine .pub 2 39 5 A' n cap' _ rfl fun h' hle hr hf => ?_
  refine .done ⟨hle, A', cap', rfl, hr, hf⟩
theorem over_one {α : Type} : ∀ (l : List α) (off : Nat) (v : α), off < l.length → over l off [v] = some (l.set off v)
  | [], off, v, h => by simp at h
  | x :: l, 0, v, _ => by cases l <;> simp [over]
  | x :: l, off + 1, v, h => by simp only [over, over_one l off v (by simpa using h), List.set_cons_succ]
theorem flat_set {size : Nat} : ∀ (rows : List (List Value)), (∀ r ∈ rows, r.length = size) → ∀ (i j : Nat) (r : List Value) (v : Value), rows[i]? = some r → j < size → rows.flatten.set (i * size + j) v = (rows.set i (r.set j v)).flatten
  | [], _, i, j, r, v, h, _ => by simp at h
  | q :: rows, hw, i, j, r, v, h, hj => by
    have hq := hw q (by simp)
    cases i with
    | zero =>
      injection h with h; subst h
      rw [List.flatten_cons, Nat.zero_mul, Nat.zero_add, List.set_append_left _ _ (by omega), List.set_cons_zero, List.flatten_cons]
    | succ i =>
      rw [List.flatten_cons, List.set_append_right _ _ (by rw [Nat.succ_mul]; omega), List.set_cons_succ, List.flatten_cons]
      have := flat_set rows (fun r hr => hw r (by simp [hr])) i j r v (by simpa using h) hj
      rw [← this, hq]
      congr 2
      rw [Nat.succ_mul]; omega
/-- one cell of a row in the partial heap written -/
theorem RowAt.write {h : Hp} {ety size n cap off : Nat} {A : Option Addr} {xs : List Value} (x : RowAt h ety size A n cap xs) (ho : off < n * size) (v : Value) :
    ∃ g cs cs', A = some ⟨g, 0, none⟩ ∧ h g = some (.cells cs.toArray ety (0, 0)) ∧ over cs off [v] = some cs' ∧ RowAt (h.put g (.cells cs'.toArray ety (0, 0))) ety size A n cap (xs.set off v) := by
  obtain ⟨h1, h2⟩ := x
  rcases h2 with ⟨_, h2, _⟩ | ⟨g, cur, q1, q2, q3, q4, q5, q6⟩
  · subst h2; omega
  · have hle : n * size ≤ cap * size := Nat.mul_le_mul_right size q3
    refine ⟨g, cur.toList, cur.toList.set off v, q1, by simpa using q2, over_one _ _ _ (by simp; omega), by simpa using h1, .inr ⟨g, (cur.toList.set off v).toArray, q1, Hp.put_same _ _ _, q3, q4, by simpa using q5, ?_⟩⟩
    rw [← q6]
    simp only [List.take_set]
end Go.Sx
