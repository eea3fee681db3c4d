/- Layer 14: copies, and whether they are the same. Conditions: none. -/
import Derived.Test.YtbgfmfgffooniaaS2
namespace Go.Sx
open Go.Proofs
theorem ones_rows {rows : List (List Value)} (hw : ∀ r ∈ rows, ∀ u ∈ r, u.oneCell' = true) : ∀ u ∈ rows.flatten, u.oneCell' = true := by
  intro u hu
  obtain ⟨r, hr, hu⟩ := List.mem_flatten.1 hu
  exact hw r hr u hu
theorem blks_one (l : List Blk) : ∀ u ∈ (l.map Blk.cells).flatten, u.oneCell' = true := ones_rows fun r hr u hu => by
  obtain ⟨a, _, rfl⟩ := List.mem_map.1 hr
  simp only [Blk.cells, List.mem_cons, List.not_mem_nil, or_false] at hu
  rcases hu with rfl | rfl | rfl <;> rfl
theorem arcs_one (l : List Arc) : ∀ u ∈ (l.map Arc.cells).flatten, u.oneCell' = true := ones_rows fun r hr u hu => by
  obtain ⟨a, _, rfl⟩ := List.mem_map.1 hr
  simp only [Arc.cells, List.mem_cons, List.not_mem_nil, or_false] at hu
  rcases hu with rfl | rfl | rfl | rfl | rfl <;> rfl

theorem blocked9 (A : Option Addr) (n cap : Nat) (l : List Blk) (h : Hp) (ht : Tab h 3 A n (l.map Blk.cells)) (hn : n * 24 ≤ 140737488355328) :
    Fn Try.prog 9 #[.slice A n cap] h fun r h' => h.le h' ∧ ∃ A' cap', r = .slice A' n cap' ∧ Tab h' 3 A' n (l.map Blk.cells) := by
  refine Fn.intro (args := [.slice A n cap]) mix14 Try.func9 rfl (by decide) Try.ntmps9 rfl (low9 rfl) rfl ?_
  conv => whnf
  refine .done (.fresh _ rfl rfl rfl (ht.src _) (blks_one l) (by simp [maxLen]; omega) hn fun A' cap' hA => ?_)
  conv => whnf
  refine .pub 0 36 3 A' n cap' _ rfl fun h' hle hr _ => ?_
  refine .done ⟨hle, A', cap', rfl, RowAt.tab hr (blks_wid l) (by decide)⟩
theorem net10 (N : Int) (A : Option Addr) (n cap : Nat) (l : List Arc) (h : Hp) (ht : Tab h 5 A n (l.map Arc.cells)) (hn : n * 40 ≤ 140737488355328) :
    Fn Try.prog 10 #[netV N A n cap] h fun r h' => h.le h' ∧ ∃ A' cap', r = netV N A' n cap' ∧ Tab h' 5 A' n (l.map Arc.cells) := by
  refine Fn.intro (args := [netV N A n cap]) mix14 Try.func10 rfl (by decide) Try.ntmps10 rfl (low10 rfl) rfl ?_
  conv => whnf
  refine .done (.fresh _ rfl rfl rfl (ht.src _) (arcs_one l) (by simp [maxLen]; omega) hn fun A' cap' hA => ?_)
  conv => whnf
  refine .pub 2 39 5 A' n cap' _ rfl fun h' hle hr _ => ?_
  refine .done ⟨hle, A', cap', rfl, RowAt.tab hr (arcs_wid l) (by decide)⟩

theorem same13 (A B : Option Addr) (n m cap cap' : Nat) (l k : List Blk) (h : Hp) (ht : Tab h 3 A n (l.map Blk.cells)) (hu : Tab h 3 B m (k.map Blk.cells)) (hn : n ≤ 9223372036854775806) :
    Fn Try.prog 13 #[.slice A n cap, .slice B m cap'] h fun r h' => r = .bool (decide (l = k)) ∧ h' = h := by
  have hl : l.length = n := by simpa using ht.len
  have hk : k.length = m := by simpa using hu.len
  refine Fn.intro (args := [.slice A n cap, .slice B m cap']) mix14 Try.func13 rfl (by decide) Try.ntmps13 rfl (low13 rfl) rfl ?_
  conv => whnf
  refine br_dec (fun h1 => ?_) (fun h1 => ?_)
  · conv => whnf
    refine .done ⟨?_, rfl⟩
    rw [decide_eq_false (fun e => h1 (by rw [← hl, ← hk, e]))]
    rfl
  have h1 : n = m := by omega
  conv => whnf
  refine .mk Nat [0, 1, 5] (fun i => [.v (.slice A n cap), .v (.slice B m cap'), .v (iv i)]) (fun _ => []) (fun i h' => h' = h ∧ i ≤ n ∧ l.take i = k.take i) (fun i => n - i) 0 (fun _ => rfl) ⟨rfl, Nat.zero_le _, rfl⟩ rfl rfl ?_
  rintro i e h' ⟨rfl, hi, hf⟩
  conv => whnf
  refine br_dec (fun h4 => ?_) (fun h4 => ?_)
  · have hi' : i < n := by omega
    obtain ⟨g, hg⟩ := ht.ad (by omega)
    obtain ⟨g', hg'⟩ := hu.ad (by omega)
    conv => whnf
    refine .mk g hg (by omega) (by omega) ?_
    conv => whnf
    refine .hp l[i].cells rfl (by rw [Int.toNat_natCast]; exact ht.row hg (map_get (by omega))) ?_
    conv => whnf
    refine .mk g' hg' (by omega) (by omega) ?_
    conv => whnf
    refine .hp k[i].cells rfl (by rw [Int.toNat_natCast]; exact hu.row hg' (map_get (by omega))) ?_
    conv => whnf
    refine br_intro (fun hb => ?_) (fun hb => ?_)
    · conv => whnf
      refine .done ⟨?_, rfl⟩
      rw [decide_eq_false]
      · rfl
      · intro e
        subst e
        simp [flip] at hb
    · conv => whnf
      refine .ok (by omega) (by omega) ?_
      conv => whnf
      refine ⟨i + 1, rfl, rfl, ⟨rfl, hi', ?_⟩, by omega⟩
      rw [← List.take_append_getElem (by omega), ← List.take_append_getElem (by omega), hf]
      have : l[i] = k[i] := by
        simp [flip] at hb
        obtain ⟨h1, h2, h3⟩ := hb
        cases e1 : l[i]
        cases e2 : k[i]
        simp_all
      rw [this]
  · conv => whnf
    refine .done ⟨?_, rfl⟩
    rw [List.take_of_length_le (by omega), List.take_of_length_le (by omega)] at hf
    rw [decide_eq_true hf]
    rfl

theorem sameNet14 (N M : Int) (A B : Option Addr) (n m cap cap' : Nat) (l k : List Arc) (h : Hp) (ht : Tab h 5 A n (l.map Arc.cells)) (hu : Tab h 5 B m (k.map Arc.cells)) (hn : n ≤ 9223372036854775806) :
    Fn Try.prog 14 #[netV N A n cap, netV M B m cap'] h fun r h' => r = .bool (decide (N = M ∧ l = k)) ∧ h' = h := by
  have hl : l.length = n := by simpa using ht.len
  have hk : k.length = m := by simpa using hu.len
  refine Fn.intro (args := [netV N A n cap, netV M B m cap']) mix14 Try.func14 rfl (by decide) Try.ntmps14 rfl (low14 rfl) rfl ?_
  conv => whnf
  refine br_dec (fun h1 => ?_) (fun h1 => ?_)
  · conv => whnf
    refine .done ⟨?_, rfl⟩
    rw [decide_eq_false (fun e => h1 e.1)]
    rfl
  have h1 : N = M := Decidable.not_not.1 h1
  conv => whnf
  refine br_dec (fun h2 => ?_) (fun h2 => ?_)
  · conv => whnf
    refine .done ⟨?_, rfl⟩
    rw [decide_eq_false (fun e => h2 (by rw [← hl, ← hk, e.2]))]
    rfl
  have h2 : n = m := by omega
  conv => whnf
  refine .mk Nat [2, 3, 5] (fun i => [.p 0 0, .p 1 0, .v (iv i)]) (fun _ => [.own [.v (iv N), .v (.slice A n cap)] 24, .own [.v (iv M), .v (.slice B m cap')] 24]) (fun i h' => h' = h ∧ i ≤ n ∧ l.take i = k.take i) (fun i => n - i) 0 (fun _ => rfl) ⟨rfl, Nat.zero_le _, rfl⟩ rfl rfl ?_
  rintro i e h' ⟨rfl, hi, hf⟩
  conv => whnf
  refine br_dec (fun h4 => ?_) (fun h4 => ?_)
  · have hi' : i < n := by omega
    obtain ⟨g, hg⟩ := ht.ad (by omega)
    obtain ⟨g', hg'⟩ := hu.ad (by omega)
    conv => whnf
    refine .mk g hg (by omega) (by omega) ?_
    conv => whnf
    refine .hp l[i].cells rfl (by rw [Int.toNat_natCast]; exact ht.row hg (map_get (by omega))) ?_
    conv => whnf
    refine .mk g' hg' (by omega) (by omega) ?_
    conv => whnf
    refine .hp k[i].cells rfl (by rw [Int.toNat_natCast]; exact hu.row hg' (map_get (by omega))) ?_
    conv => whnf
    refine br_intro (fun hb => ?_) (fun hb => ?_)
    · conv => whnf
      refine .done ⟨?_, rfl⟩
      rw [decide_eq_false]
      · rfl
      · rintro ⟨_, e⟩
        subst e
        simp [flip] at hb
    · conv => whnf
      refine .ok (by omega) (by omega) ?_
      conv => whnf
      refine ⟨i + 1, rfl, rfl, ⟨rfl, hi', ?_⟩, by omega⟩
      rw [← List.take_append_getElem (by omega), ← List.take_append_getElem (by omega), hf]
      have : l[i] = k[i] := by
        simp [flip] at hb
        obtain ⟨h1, h2, h3, h4, h5⟩ := hb
        cases e1 : l[i]
        cases e2 : k[i]
        simp_all
      rw [this]
  · conv => whnf
    refine .done ⟨?_, rfl⟩
    rw [List.take_of_length_le (by omega), List.take_of_length_le (by omega)] at hf
    rw [decide_eq_true ⟨h1, hf⟩]
    rfl
end Go.Sx
