/- Rows of equal width in a partial heap; arcs, blocks and nets. Conditions: none. -/
import Derived.Test.YthibgmkobcbhhaaGreatSx14
namespace Go.Sx
/-- A slice whose elements are rows of 'size' cells. -/
structure Tab (h : Hp) (size : Nat) (A : Option Addr) (n : Nat) (rows : List (List Value)) : Prop where
  len : rows.length = n
  wid : ∀ r ∈ rows, r.length = size
  ad : n ≠ 0 → ∃ g, A = some g
  cell : ∀ g, A = some g → ∀ (i : Nat) (r : List Value), rows[i]? = some r → ∀ (j : Nat) (v : Value), r[j]? = some v → h.cell? (g.add (i * size + j)) = some v

theorem Tab.mono {h h' : Hp} {size n : Nat} {A : Option Addr} {rows : List (List Value)} (t : Tab h size A n rows) (x : h.le h') : Tab h' size A n rows :=
  ⟨t.len, t.wid, t.ad, fun g hg i r hr j v hv => Hp.cell_le x (t.cell g hg i r hr j v hv)⟩
theorem Tab.nil (h : Hp) (size : Nat) (A : Option Addr) : Tab h size A 0 [] := ⟨rfl, (fun r hr => by cases hr), (fun e => absurd rfl e), (fun g _ i r hr => by simp at hr)⟩

theorem flat_wid {size : Nat} : ∀ (rows : List (List Value)), (∀ r ∈ rows, r.length = size) → rows.flatten.length = rows.length * size
  | [], _ => by simp
  | r :: rows, hw => by
    simp only [List.flatten_cons, List.length_append, List.length_cons, hw r (by simp), flat_wid rows fun r hr => hw r (by simp [hr])]
    rw [Nat.succ_mul]; omega
theorem flat_in {size : Nat} : ∀ (rows : List (List Value)), (∀ r ∈ rows, r.length = size) → ∀ (k : Nat) (v : Value), rows.flatten[k]? = some v → ∃ i j r, k = i * size + j ∧ rows[i]? = some r ∧ r[j]? = some v
  | [], _, k, v, h => by simp at h
  | r :: rows, hw, k, v, h => by
    rw [List.flatten_cons, List.getElem?_append] at h
    split at h
    · exact ⟨0, k, r, by simp, rfl, h⟩
    · rename_i hk
      have hr := hw r (by simp)
      obtain ⟨i, j, r', h1, h2, h3⟩ := flat_in rows (fun r hr => hw r (by simp [hr])) (k - r.length) v h
      exact ⟨i + 1, j, r', by rw [Nat.succ_mul]; omega, by simpa using h2, h3⟩
theorem flat_at {size : Nat} : ∀ (rows : List (List Value)), (∀ r ∈ rows, r.length = size) → ∀ (i j : Nat) (r : List Value) (v : Value), rows[i]? = some r → r[j]? = some v → rows.flatten[i * size + j]? = some v
  | [], _, i, j, r, v, h, _ => by simp at h
  | q :: rows, hw, i, j, r, v, h, hv => by
    have hq := hw q (by simp)
    rw [List.flatten_cons, List.getElem?_append]
    cases i with
    | zero =>
      injection h with h; subst h
      have := (List.getElem?_eq_some_iff.1 hv).1
      rw [if_pos (by omega), Nat.zero_mul, Nat.zero_add]; exact hv
    | succ i =>
      rw [if_neg (by rw [Nat.succ_mul]; omega)]
      have := flat_at rows (fun r hr => hw r (by simp [hr])) i j r v (by simpa using h) hv
      rw [← this, hq, Nat.succ_mul]
      congr 1; omega
theorem Tab.src {h : Hp} {size n : Nat} {A : Option Addr} {rows : List (List Value)} (t : Tab h size A n rows) (L : List LE) : Src L h size A n rows.flatten := by
  by_cases hn : n = 0
  · have := t.len
    rw [hn] at this
    rw [List.eq_nil_of_length_eq_zero this]
    exact .nil hn
  · obtain ⟨g, hg⟩ := t.ad hn
    refine .hp g _ hg (by rw [flat_wid _ t.wid, t.len]) fun k v hk => ?_
    obtain ⟨i, j, r, h1, h2, h3⟩ := flat_in _ t.wid k v hk
    rw [h1]; exact t.cell g hg i r h2 j v h3
theorem RowAt.tab {h : Hp} {ety size n cap : Nat} {A : Option Addr} {rows : List (List Value)} (x : RowAt h ety size A n cap rows.flatten) (hw : ∀ r ∈ rows, r.length = size) (hs : 0 < size) : Tab h size A n rows := by
  obtain ⟨h1, h2⟩ := x
  rw [flat_wid _ hw] at h1
  have hl : rows.length = n := Nat.eq_of_mul_eq_mul_right hs h1
  refine ⟨hl, hw, fun hn => ?_, fun g hg i r hr j v hv => ?_⟩
  · rcases h2 with ⟨_, h2, _⟩ | ⟨g, cur, h2, _⟩
    · exact absurd h2 hn
    · exact ⟨_, h2⟩
  · rcases h2 with ⟨h2, _⟩ | ⟨b, cur, h2, h3, _, _, _, h4⟩
    · rw [hg] at h2; cases h2
    · rw [hg] at h2; injection h2 with h2
      subst h2
      rw [add_lit, Nat.zero_add]
      have := flat_at _ hw i j r v hr hv
      rw [← h4, List.getElem?_take] at this
      split at this
      · rw [Array.getElem?_toList] at this
        unfold Hp.cell?
        simp only [h3, Option.isSome_none, Bool.false_eq_true, if_false]
        exact this
      · cases this
/-- a row of the walk's own, read -/
theorem row_at {size : Nat} {rows : List (List Value)} (hw : ∀ r ∈ rows, r.length = size) {i : Nat} {r : List Value} (hr : rows[i]? = some r) {j : Nat} {v : Value} (hv : r[j]? = some v) : rows.flatten[i * size + j]? = some v := flat_at _ hw i j r v hr hv

/-- one row read at its own -/
theorem Tab.row {h : Hp} {size n : Nat} {A : Option Addr} {rows : List (List Value)} (t : Tab h size A n rows) {g : Addr} (hg : A = some g) {i : Nat} {r : List Value} (hr : rows[i]? = some r) : ∀ j v, r[j]? = some v → h.cell? ((g.add (i * size)).add j) = some v :=
  fun j v hv => by rw [add_add]; exact t.cell g hg i r hr j v hv
theorem Tab.one {h : Hp} {size n : Nat} {A : Option Addr} {rows : List (List Value)} (t : Tab h size A n rows) {g : Addr} (hg : A = some g) {i : Nat} {r : List Value} (hr : rows[i]? = some r) {v : Value} (hv : r[0]? = some v) : h.cell? (g.add (i * size)) = some v :=
  t.cell g hg i r hr 0 v hv

theorem add_zero (a : Addr) : a.add 0 = a := by unfold Addr.add; rw [if_pos rfl]
theorem Tab.take {h : Hp} {size n : Nat} {A : Option Addr} {rows : List (List Value)} (t : Tab h size A n rows) {k : Nat} (hk : k ≤ n) : Tab h size A k (rows.take k) := by
  refine ⟨by simp [t.len]; omega, fun r hr => t.wid r (List.mem_of_mem_take hr), fun h0 => t.ad (by omega), fun g hg i r hr j v hv => ?_⟩
  rw [List.getElem?_take] at hr
  split at hr
  · exact t.cell g hg i r hr j v hv
  · cases hr
theorem Tab.drop {h : Hp} {size n : Nat} {A B : Option Addr} {rows : List (List Value)} (t : Tab h size A n rows) {k : Nat} (hB : k < n → B = A.map (·.add (k * size))) (hk : k ≤ n) : Tab h size B (n - k) (rows.drop k) := by
  refine ⟨by simp [t.len], fun r hr => t.wid r (List.mem_of_mem_drop hr), fun h0 => ?_, fun g hg i r hr j v hv => ?_⟩
  · obtain ⟨g, hg⟩ := t.ad (by omega)
    exact ⟨_, by rw [hB (by omega), hg]; rfl⟩
  · rw [List.getElem?_drop] at hr
    have hlt := (List.getElem?_eq_some_iff.1 hr).1
    rw [t.len] at hlt
    obtain ⟨g', hg'⟩ := t.ad (by omega)
    rw [hB (by omega), hg'] at hg
    injection hg with hg
    rw [← hg, add_add]
    have := t.cell g' hg' (k + i) r hr j v hv
    rw [show k * size + (i * size + j) = (k + i) * size + j by rw [Nat.add_mul]; omega]
    exact this

def iv (z : Int) : Value := .int .i64 z
/-- what lies in the memory's own words -/
def InI (z : Int) : Prop := -9223372036854775808 ≤ z ∧ z ≤ 9223372036854775807

structure Arc where
  src : Int
  dst : Int
  give : Int
  take : Int
  start : Int
  deriving DecidableEq
def Arc.cells (a : Arc) : List Value := [iv a.src, iv a.dst, iv a.give, iv a.take, iv a.start]
structure Blk where
  node : Int
  fired : Int
  arc : Int
  deriving DecidableEq
def Blk.cells (a : Blk) : List Value := [iv a.node, iv a.fired, iv a.arc]
def netV (N : Int) (A : Option Addr) (m cap : Nat) : Value := .agg #[iv N, .slice A m cap]
theorem arcs_wid (l : List Arc) : ∀ r ∈ l.map Arc.cells, r.length = 5 := by
  intro r hr
  obtain ⟨a, _, rfl⟩ := List.mem_map.1 hr
  rfl
theorem blks_wid (l : List Blk) : ∀ r ∈ l.map Blk.cells, r.length = 3 := by
  intro r hr
  obtain ⟨a, _, rfl⟩ := List.mem_map.1 hr
  rfl
theorem ints_wid (l : List Int) : ∀ r ∈ l.map fun z => [iv z], r.length = 1 := by
  intro r hr
  obtain ⟨a, _, rfl⟩ := List.mem_map.1 hr
  rfl
theorem map_get {α β : Type} {f : α → β} {l : List α} {i : Nat} (hi : i < l.length) : (l.map f)[i]? = some (f l[i]) := by simp [hi]
end Go.Sx
