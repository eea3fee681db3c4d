/- Layer 18: lists of numbers compared. Conditions: none. -/
import Derived.Test.YtfdcoiiaiihdnaaN18I
namespace Go.Sx
open Go.Proofs
theorem take_eq_step {a b : List Int} {k : Nat} (h : a.take k = b.take k) (ha : k < a.length) (hb : k < b.length) : (a.take (k + 1) = b.take (k + 1)) ↔ a[k] = b[k] := by
  rw [take_succ' ha, take_succ' hb, h]
  exact ⟨fun e => by have := List.append_cancel_left e; simpa using this, fun e => by rw [e]⟩
theorem same21 (A B : Option Addr) (n m ca cb : Nat) (a b : List Int) (h : Hp) (hA : Tab h 1 A n (a.map fun z => [iv z])) (hB : Tab h 1 B m (b.map fun z => [iv z])) (hn : n ≤ 9223372036854775806) :
    Fn Try.prog 21 #[.slice A n ca, .slice B m cb] h fun r h' => r = .bool (decide (a = b)) ∧ h' = h := by
  have hal : a.length = n := by simpa using hA.len
  have hbl : b.length = m := by simpa using hB.len
  refine Fn.intro (args := [.slice A n ca, .slice B m cb]) mix14 Try.func21 rfl (by decide) Try.ntmps21 rfl (low21 rfl) rfl ?_
  conv => whnf
  refine br_dec (fun h1 => ?_) (fun h1 => ?_)
  · conv => whnf
    refine .done ⟨?_, rfl⟩
    rw [decide_eq_false (fun e => by subst e; omega)]; rfl
  have hnm : n = m := by omega
  subst hnm
  conv => whnf
  refine .mk Nat [0, 1, 5] (fun k => [.v (.slice A n ca), .v (.slice B n cb), .v (iv k)]) (fun _ => []) (fun k h' => h' = h ∧ k ≤ n ∧ a.take k = b.take k) (fun k => n - k) 0 (fun _ => rfl) ⟨rfl, Nat.zero_le _, by simp⟩ rfl rfl ?_
  rintro k e h' ⟨rfl, hk, heq⟩
  conv => whnf
  refine br_dec (fun h2 => ?_) (fun h2 => ?_)
  · have hk' : k < n := by omega
    obtain ⟨g, hg⟩ := hA.ad (by omega)
    obtain ⟨g2, hg2⟩ := hB.ad (by omega)
    have hst := take_eq_step heq (by omega) (by omega)
    conv => whnf
    refine .mk g hg (by omega) (by omega) ?_
    conv => whnf
    refine .hp (iv (a[k]'(by omega))) (by rw [Int.toNat_natCast]; exact hA.one hg (r := [iv (a[k]'(by omega))]) (by simp [hal, hk']) rfl) ?_
    conv => whnf
    refine .mk g2 hg2 (by omega) (by omega) ?_
    conv => whnf
    refine .hp (iv (b[k]'(by omega))) (by rw [Int.toNat_natCast]; exact hB.one hg2 (r := [iv (b[k]'(by omega))]) (by simp [hbl, hk']) rfl) ?_
    conv => whnf
    refine br_dec (fun h3 => ?_) (fun h3 => ?_)
    · conv => whnf
      refine .done ⟨?_, rfl⟩
      rw [decide_eq_false (fun e => h3 (by subst e; rfl))]; rfl
    · conv => whnf
      refine .ok (by omega) (by omega) ?_
      conv => whnf
      exact ⟨k + 1, rfl, rfl, ⟨rfl, hk', hst.2 (Decidable.not_not.1 h3)⟩, by omega⟩
  · have : k = n := by omega
    subst this
    conv => whnf
    refine .done ⟨?_, rfl⟩
    rw [List.take_of_length_le (by omega), List.take_of_length_le (by omega)] at heq
    rw [decide_eq_true heq]; rfl
theorem equal41 (A B : Option Addr) (n m ca cb : Nat) (a b : List Int) (h : Hp) (hA : Tab h 1 A n (a.map fun z => [iv z])) (hB : Tab h 1 B m (b.map fun z => [iv z])) (hn : n ≤ 9223372036854775806) :
    Fn Try.prog 41 #[.slice A n ca, .slice B m cb] h fun r h' => r = .bool (decide (a = b)) ∧ h' = h := by
  have hal : a.length = n := by simpa using hA.len
  have hbl : b.length = m := by simpa using hB.len
  refine Fn.intro (args := [.slice A n ca, .slice B m cb]) mix14 Try.func41 rfl (by decide) Try.ntmps41 rfl (low41 rfl) rfl ?_
  conv => whnf
  refine br_dec (fun h1 => ?_) (fun h1 => ?_)
  · conv => whnf
    refine .done ⟨?_, rfl⟩
    rw [decide_eq_false (fun e => by subst e; omega)]; rfl
  have hnm : n = m := by omega
  subst hnm
  conv => whnf
  refine .mk Nat [0, 1, 12, 13] (fun k => [.v (.slice A n ca), .v (.slice B n cb), .v (iv n), .v (iv k)]) (fun _ => []) (fun k h' => h' = h ∧ k ≤ n ∧ a.take k = b.take k) (fun k => n - k) 0 (fun _ => rfl) ⟨rfl, Nat.zero_le _, by simp⟩ rfl rfl ?_
  rintro k e h' ⟨rfl, hk, heq⟩
  conv => whnf
  refine br_dec (fun h2 => ?_) (fun h2 => ?_)
  · have hk' : k < n := by omega
    obtain ⟨g, hg⟩ := hA.ad (by omega)
    obtain ⟨g2, hg2⟩ := hB.ad (by omega)
    have hst := take_eq_step heq (by omega) (by omega)
    conv => whnf
    refine .mk g hg (by omega) (by omega) ?_
    conv => whnf
    refine .hp (iv (a[k]'(by omega))) (by rw [Int.toNat_natCast]; exact hA.one hg (r := [iv (a[k]'(by omega))]) (by simp [hal, hk']) rfl) ?_
    conv => whnf
    refine .mk g2 hg2 (by omega) (by omega) ?_
    conv => whnf
    refine .hp (iv (b[k]'(by omega))) (by rw [Int.toNat_natCast]; exact hB.one hg2 (r := [iv (b[k]'(by omega))]) (by simp [hbl, hk']) rfl) ?_
    conv => whnf
    refine br_dec (fun h3 => ?_) (fun h3 => ?_)
    · conv => whnf
      refine .done ⟨?_, rfl⟩
      rw [decide_eq_false (fun e => h3 (by subst e; rfl))]; rfl
    · conv => whnf
      refine .ok (by omega) (by omega) ?_
      conv => whnf
      exact ⟨k + 1, rfl, rfl, ⟨rfl, hk', hst.2 (Decidable.not_not.1 h3)⟩, by omega⟩
  · have : k = n := by omega
    subst this
    conv => whnf
    refine .done ⟨?_, rfl⟩
    rw [List.take_of_length_le (by omega), List.take_of_length_le (by omega)] at heq
    rw [decide_eq_true heq]; rfl
/-- a list of lists of numbers, to be read -/
structure ListsAt (h : Hp) (A : Option Addr) (rows : List (List Int)) (J : Nat → Option Addr × Nat) : Prop where
  outer : Tab h 1 A rows.length ((List.range rows.length).map fun i => [.slice (J i).1 (rows.getD i []).length (J i).2])
  inner : ∀ i, i < rows.length → Tab h 1 (J i).1 (rows.getD i []).length ((rows.getD i []).map fun z => [iv z])
theorem ListsAt.mono {h h' : Hp} {A : Option Addr} {rows : List (List Int)} {J : Nat → Option Addr × Nat} (x : ListsAt h A rows J) (l : h.le h') : ListsAt h' A rows J := ⟨x.outer.mono l, fun i hi => (x.inner i hi).mono l⟩
theorem rowCells_flat (n : Nat) (J : Nat → Addr × Nat) (rows : List (List Int)) (hl : ∀ i, i < rows.length → (rows.getD i []).length = n) : rowCells n J rows.length = ((List.range rows.length).map fun i => [Value.slice (some (J i).1) (rows.getD i []).length (J i).2]).flatten := by
  have : ∀ l : List Nat, (∀ i ∈ l, i < rows.length) → l.map (fun i => Value.slice (some (J i).1) n (J i).2) = (l.map fun i => [Value.slice (some (J i).1) (rows.getD i []).length (J i).2]).flatten := by
    intro l
    induction l with
    | nil => intro _; rfl
    | cons x l ih =>
      intro hx
      rw [List.map_cons, List.map_cons, List.flatten_cons, ih fun i hi => hx i (List.mem_cons_of_mem _ hi), hl x (hx x (List.mem_cons_self ..))]
      rfl
  exact this _ fun i hi => List.mem_range.1 hi
theorem RowsAt.lens {X : Hp} {n : Nat} {rows : List (List Int)} {A : Option Addr} {c : Nat} {J : Nat → Addr × Nat} (x : RowsAt X n rows A c J) (i : Nat) (hi : i < rows.length) : (rows.getD i []).length = n := by
  have := (x.inner i hi).1
  rw [List.getD_eq_getElem?_getD, List.getElem?_eq_getElem hi]
  simpa using this
theorem RowsAt.lists {X : Hp} {n : Nat} {rows : List (List Int)} {A : Option Addr} {c : Nat} {J : Nat → Addr × Nat} (x : RowsAt X n rows A c J) : ListsAt X A rows fun i => (some (J i).1, (J i).2) := by
  refine ⟨?_, fun i hi => ?_⟩
  · have := x.outer
    rw [rowCells_flat n J rows x.lens] at this
    exact this.tab (fun r hr => by obtain ⟨i, _, rfl⟩ := List.mem_map.1 hr; rfl) (by decide)
  · have := (x.inner i hi).one
    rw [x.lens i hi, List.getD_eq_getElem?_getD, List.getElem?_eq_getElem hi]
    exact this
theorem map_range {α : Type} {f : Nat → α} {n k : Nat} (hk : k < n) : ((List.range n).map f)[k]? = some (f k) := by
  rw [List.getElem?_map, List.getElem?_range hk]; rfl
theorem sameLists14 (A B : Option Addr) (ca cb : Nat) (a b : List (List Int)) (J K : Nat → Option Addr × Nat) (h : Hp) (hA : ListsAt h A a J) (hB : ListsAt h B b K) (hn : a.length ≤ 9223372036854775806) (hn2 : ∀ i, i < a.length → (a.getD i []).length ≤ 9223372036854775806) :
    Fn Try.prog 14 #[.slice A a.length ca, .slice B b.length cb] h fun r h' => r = .bool (decide (a = b)) ∧ h' = h := by
  refine Fn.intro (args := [.slice A a.length ca, .slice B b.length cb]) mix14 Try.func14 rfl (by decide) Try.ntmps14 rfl (low14 rfl) rfl ?_
  conv => whnf
  refine br_dec (fun h1 => ?_) (fun h1 => ?_)
  · conv => whnf
    refine .done ⟨?_, rfl⟩
    rw [decide_eq_false (fun e => by subst e; omega)]; rfl
  have hnm : b.length = a.length := by omega
  rw [hnm]
  conv => whnf
  refine .mk Nat [0, 1, 5] (fun k => [.v (.slice A a.length ca), .v (.slice B a.length cb), .v (iv k)]) (fun _ => []) (fun k h' => h' = h ∧ k ≤ a.length ∧ a.take k = b.take k) (fun k => a.length - k) 0 (fun _ => rfl) ⟨rfl, Nat.zero_le _, by simp⟩ rfl rfl ?_
  rintro k e h' ⟨rfl, hk, heq⟩
  conv => whnf
  refine br_dec (fun h2 => ?_) (fun h2 => ?_)
  · have hk' : k < a.length := by omega
    obtain ⟨g, hg⟩ := hA.outer.ad (by omega)
    obtain ⟨g2, hg2⟩ := hB.outer.ad (by omega)
    have e1 : a.getD k [] = a[k] := by rw [List.getD_eq_getElem?_getD, List.getElem?_eq_getElem hk']; rfl
    have e2 : b.getD k [] = b[k]'(by omega) := by rw [List.getD_eq_getElem?_getD, List.getElem?_eq_getElem (by omega)]; rfl
    have hst : (a.take (k + 1) = b.take (k + 1)) ↔ a[k] = b[k]'(by omega) := by
      rw [take_succ' hk', take_succ' (by omega), heq]
      exact ⟨fun e => by have := List.append_cancel_left e; simpa using this, fun e => by rw [e]⟩
    conv => whnf
    refine .mk g hg (by omega) (by omega) ?_
    conv => whnf
    refine .hp (.slice (J k).1 (a.getD k []).length (J k).2) (by rw [Int.toNat_natCast]; exact hA.outer.one hg (map_range hk') rfl) ?_
    conv => whnf
    refine .mk g2 hg2 (by omega) (by omega) ?_
    conv => whnf
    refine .hp (.slice (K k).1 (b.getD k []).length (K k).2) (by rw [Int.toNat_natCast]; exact hB.outer.one hg2 (map_range (by omega)) rfl) ?_
    conv => whnf
    refine .mk _ (same21 _ _ _ _ _ _ _ _ _ (hA.inner k hk') (hB.inner k (by omega)) (hn2 k hk')) (fun _ _ q => by rw [q.2]; exact Hp.le_refl _) ?_
    rintro _ _ ⟨rfl, rfl⟩
    rw [e1, e2]
    conv => whnf
    by_cases h3 : a[k] = b[k]'(by omega)
    · rw [decide_eq_true h3]
      conv => whnf
      refine .ok (by omega) (by omega) ?_
      conv => whnf
      exact ⟨k + 1, rfl, rfl, ⟨rfl, hk', hst.2 h3⟩, by omega⟩
    · rw [decide_eq_false h3]
      conv => whnf
      refine .done ⟨?_, rfl⟩
      rw [decide_eq_false (fun e => h3 (by subst e; rfl))]; rfl
  · have : k = a.length := by omega
    subst this
    conv => whnf
    refine .done ⟨?_, rfl⟩
    rw [List.take_of_length_le (by omega), List.take_of_length_le (by omega)] at heq
    rw [decide_eq_true heq]; rfl
theorem ints24 (A : Option Addr) (n c : Nat) (a : List Int) (h : Hp) (hA : Tab h 1 A n (a.map fun z => [iv z])) (hn : n * 8 ≤ 140737488355328) :
    Fn Try.prog 24 #[.slice A n c] h fun r h' => h.le h' ∧ ∃ A' c', r = .slice A' n c' ∧ RowAt h' 3 1 A' n c' (a.map iv) ∧ ∀ g, A' = some g → h g.block = none := by
  refine Fn.intro (args := [.slice A n c]) mix14 Try.func24 rfl (by decide) Try.ntmps24 rfl (low24 rfl) rfl ?_
  conv => whnf
  refine .done (.fresh _ rfl rfl rfl (hA.src _) (by rw [flat_nums]; exact nums_one a) (by simp [maxLen]; omega) hn fun A' cap' hA' => ?_)
  conv => whnf
  refine .pub 0 3 1 A' n cap' _ rfl fun h' hle hr hf => ?_
  have hr : RowAt h' 3 1 A' n cap' (a.map fun z => [iv z]).flatten := hr
  rw [flat_nums] at hr
  exact .done ⟨hle, A', cap', rfl, hr, hf⟩
end Go.Sx
