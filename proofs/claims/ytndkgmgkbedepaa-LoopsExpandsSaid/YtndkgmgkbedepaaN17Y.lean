/- Layer 17: lists of numbers: compared, lent, kept, apart. Conditions: none. -/
import Derived.Test.YtndkgmgkbedepaaN17T
namespace Go.Sx
open Go.Proofs
set_option maxRecDepth 100000
theorem take_eq_step {a b : List Int} {k : Nat} (h : a.take k = b.take k) (ha : k < a.length) (hb : k < b.length) : (a.take (k + 1) = b.take (k + 1)) ↔ a[k] = b[k] := by
  rw [take_succ' ha, take_succ' hb, h]
  exact ⟨fun e => by have := List.append_cancel_left e; simpa using this, fun e => by rw [e]⟩
theorem same24 (A B : Option Addr) (n m ca cb : Nat) (a b : List Int) (h : Hp) (hA : Tab h 1 A n (a.map fun z => [iv z])) (hB : Tab h 1 B m (b.map fun z => [iv z])) (hn : n ≤ 9223372036854775806) :
    Fn Try.prog 25 #[.slice A n ca, .slice B m cb] h fun r h' => r = .bool (decide (a = b)) ∧ h' = h := by
  have hal : a.length = n := by simpa using hA.len
  have hbl : b.length = m := by simpa using hB.len
  refine Fn.intro (args := [.slice A n ca, .slice B m cb]) mix14 Try.func25 rfl (by decide) Try.ntmps25 rfl (low25 rfl) rfl ?_
  conv => whnf
  refine br_dec (fun h1 => ?_) (fun h1 => ?_)
  · conv => whnf
    refine .done ⟨?_, rfl⟩
    rw [decide_eq_false (fun e => by subst e; omega)]; rfl
  have hnm : n = m := by omega
  subst hnm
  conv => whnf
  refine .mk Nat [0, 1, 5] (fun k => [.v (.slice A n ca), .v (.slice B n cb), .v (iv k)]) (fun _ => []) (fun k h' => h' = h ∧ k ≤ n ∧ a.take k = b.take k) (fun k => n - k) 0 (fun _ => rfl) ⟨rfl, Nat.zero_le _, by simp⟩ rfl rfl ?_
  rintro k e h' ⟨rfl, hk, heq⟩
  conv => whnf
  refine br_dec (fun h2 => ?_) (fun h2 => ?_)
  · have hk' : k < n := by omega
    obtain ⟨g, hg⟩ := hA.ad (by omega)
    obtain ⟨g2, hg2⟩ := hB.ad (by omega)
    have hst := take_eq_step heq (by omega) (by omega)
    conv => whnf
    refine .mk g hg (by omega) (by omega) ?_
    conv => whnf
    refine .hp (iv (a[k]'(by omega))) (by rw [Int.toNat_natCast]; exact hA.one hg (r := [iv (a[k]'(by omega))]) (by simp [hal, hk']) rfl) ?_
    conv => whnf
    refine .mk g2 hg2 (by omega) (by omega) ?_
    conv => whnf
    refine .hp (iv (b[k]'(by omega))) (by rw [Int.toNat_natCast]; exact hB.one hg2 (r := [iv (b[k]'(by omega))]) (by simp [hbl, hk']) rfl) ?_
    conv => whnf
    refine br_dec (fun h3 => ?_) (fun h3 => ?_)
    · conv => whnf
      refine .done ⟨?_, rfl⟩
      rw [decide_eq_false (fun e => h3 (by subst e; rfl))]; rfl
    · conv => whnf
      refine .ok (by omega) (by omega) ?_
      conv => whnf
      exact ⟨k + 1, rfl, rfl, ⟨rfl, hk', hst.2 (Decidable.not_not.1 h3)⟩, by omega⟩
  · have : k = n := by omega
    subst this
    conv => whnf
    refine .done ⟨?_, rfl⟩
    rw [List.take_of_length_le (by omega), List.take_of_length_le (by omega)] at heq
    rw [decide_eq_true heq]; rfl
theorem map_range {α : Type} {f : Nat → α} {n k : Nat} (hk : k < n) : ((List.range n).map f)[k]? = some (f k) := by
  rw [List.getElem?_map, List.getElem?_range hk]; rfl
theorem ints35 (A : Option Addr) (n c : Nat) (a : List Int) (h : Hp) (hA : Tab h 1 A n (a.map fun z => [iv z])) (hn : n * 8 ≤ 140737488355328) :
    Fn Try.prog 26 #[.slice A n c] h fun r h' => h.le h' ∧ ∃ A' c', r = .slice A' n c' ∧ RowAt h' 3 1 A' n c' (a.map iv) ∧ ∀ g, A' = some g → h g.block = none := by
  refine Fn.intro (args := [.slice A n c]) mix14 Try.func26 rfl (by decide) Try.ntmps26 rfl (low26 rfl) rfl ?_
  conv => whnf
  refine .done (.fresh _ rfl rfl rfl (hA.src _) (by rw [flat_nums]; exact nums_one a) (by simp [maxLen]; omega) hn fun A' cap' hA' => ?_)
  conv => whnf
  refine .pub 0 3 1 A' n cap' _ rfl fun h' hle hr hf => ?_
  have hr : RowAt h' 3 1 A' n cap' (a.map fun z => [iv z]).flatten := hr
  rw [flat_nums] at hr
  exact .done ⟨hle, A', cap', rfl, hr, hf⟩
def marks4 : List Int := [-7770777, -7770777, -7770777, -7770777]
/-- a list lent: its numbers, and marks behind them -/
structure LentL (h : Hp) (A : Option Addr) (r : Nat) (zs : List Int) : Prop where
  len : zs.length = r
  row : Tab h 1 A (r + 4) ((zs ++ marks4).map fun z => [iv z])
theorem LentL.tab {h : Hp} {A : Option Addr} {r : Nat} {zs : List Int} (x : LentL h A r zs) : Tab h 1 A r (zs.map fun z => [iv z]) := by
  have := x.row.take (k := r) (by omega)
  rwa [List.map_append, List.take_left' (by simpa using x.len)] at this
theorem LentL.mono {h h' : Hp} {A : Option Addr} {r : Nat} {zs : List Int} (x : LentL h A r zs) (l : h.le h') : LentL h' A r zs := ⟨x.len, x.row.mono l⟩
theorem map_add0' (A : Option Addr) : A.map (fun a => a.add (0 * 1)) = A := by cases A <;> simp [add_zero]
theorem lent28 (D : Option Addr) (r cap2 : Nat) (zs : List Int) (h : Hp) (hz : Tab h 1 D r (zs.map fun z => [iv z])) (hr : r * 8 ≤ 140737488355328) :
    Fn Try.prog 17 #[.slice D r cap2] h fun v h' => h.le h' ∧ ∃ A', v = .slice A' r (r + 4) ∧ LentL h' A' r zs := by
  have hzl : zs.length = r := by simpa using hz.len
  refine Fn.intro (args := [.slice D r cap2]) mix14 Try.func17 rfl (by decide) Try.ntmps17 rfl (low17 rfl) rfl ?_
  conv => whnf
  refine .ok (by omega) (by omega) ?_
  conv => whnf
  refine EvMake.room (r + 4) rfl (by omega) (by omega) (by omega) fun g => ?_
  conv => whnf
  refine .done (.room 0 g _ _ rfl rfl (hz.src _) (by rw [flat_nums]; exact nums_one zs) (by omega) ?_)
  rw [flat_nums, Nat.zero_add]
  conv => whnf
  refine .mk Nat [0, 3, 4] (fun k => [.v (.slice D r cap2), .v (.slice (some g) (r + k) (r + 4)), .v (iv k)]) (fun k => [.row 3 1 (some g) (r + k) (r + 4) ((zs ++ marks4.take k).map iv)]) (fun k h' => h' = h ∧ k ≤ 4) (fun k => 4 - k) 0 (fun _ => rfl) ⟨rfl, by decide⟩ rfl (by show _ = [LE.row 3 1 (some g) r (r + 4) ((zs ++ []).map iv)]; rw [List.append_nil]; rfl) ?_
  rintro k e h' ⟨rfl, hk⟩
  conv => whnf
  refine br_dec (fun h1 => ?_) (fun h1 => ?_)
  · have hk' : k < 4 := by omega
    conv => whnf
    refine .done (.room 0 g _ [iv (-7770777)] rfl rfl rfl (nums_one [-7770777]) (by omega) ?_)
    conv => whnf
    refine .ok (by omega) (by omega) ?_
    conv => whnf
    refine ⟨k + 1, rfl, ?_, ⟨rfl, hk'⟩, by omega⟩
    have : (zs ++ marks4.take k).map iv ++ [iv (-7770777)] = (zs ++ marks4.take (k + 1)).map iv := by
      match k, hk' with
      | 0, _ => simp [marks4]
      | 1, _ => simp [marks4]
      | 2, _ => simp [marks4]
      | 3, _ => simp [marks4]
    rw [← this]
    rfl
  · obtain rfl : k = 4 := by omega
    conv => whnf
    refine .mk 0 r rfl rfl (Nat.zero_le _) (by omega) fun B hB1 _ => ?_
    obtain rfl : B = some g := by rw [hB1 (by omega), map_add0']
    conv => whnf
    refine .pub 0 3 1 (some g) (r + 4) (r + 4) _ rfl fun h2 hle hro _ => .done ⟨hle, some g, rfl, hzl, ?_⟩
    exact hro.one
theorem kept32 (A D : Option Addr) (r c2 : Nat) (zs : List Int) (h : Hp) (ht : LentL h A r zs) (hz : Tab h 1 D r (zs.map fun z => [iv z])) (hr : r * 8 ≤ 140737488355328) :
    Fn Try.prog 20 #[.slice A r (r + 4), .slice D r c2] h fun v h' => v = .bool true ∧ h' = h := by
  obtain ⟨g, rfl⟩ := ht.row.ad (by omega)
  refine Fn.intro (args := [.slice (some g) r (r + 4), .slice D r c2]) mix14 Try.func20 rfl (by decide) Try.ntmps20 rfl (low20 rfl) rfl ?_
  conv => whnf
  refine .done (.mk _ (same24 _ _ _ _ _ _ _ _ _ ht.tab hz (by omega)) ?_)
  rintro _ h' ⟨rfl, rfl⟩
  rw [decide_eq_true rfl]
  conv => whnf
  refine .ok (by omega) (by omega) ?_
  conv => whnf
  refine .mk 0 (r + 4) rfl rfl (Nat.zero_le _) (Nat.le_refl _) fun B hB1 _ => ?_
  obtain rfl : B = some g := by rw [hB1 (by omega), map_add0']
  conv => whnf
  refine .mk Nat [5, 6] (fun k => [.v (.slice (some g) (r + 4) (r + 4)), .v (iv ((r + k : Nat) : Int))]) (fun _ => []) (fun k h2 => h2 = h' ∧ k ≤ 4) (fun k => 4 - k) 0 (fun _ => rfl) ⟨rfl, by decide⟩ rfl rfl ?_
  rintro k e h2 ⟨rfl, hk⟩
  conv => whnf
  refine br_dec (fun h1 => ?_) (fun h1 => ?_)
  · have hk' : k < 4 := by omega
    have hget : ((zs ++ marks4).map fun z => [iv z])[r + k]? = some [iv (-7770777)] := by
      rw [List.getElem?_map, List.getElem?_append_right (by rw [ht.len]; omega), ht.len, Nat.add_sub_cancel_left]
      match k, hk' with
      | 0, _ => rfl
      | 1, _ => rfl
      | 2, _ => rfl
      | 3, _ => rfl
    conv => whnf
    refine .mk g rfl (by omega) (by omega) ?_
    conv => whnf
    refine .hp (iv (-7770777)) (by rw [Int.toNat_natCast]; exact ht.row.one rfl hget rfl) ?_
    conv => whnf
    refine .ok (by omega) (by omega) ?_
    conv => whnf
    exact ⟨k + 1, rfl, rfl, ⟨rfl, hk'⟩, by omega⟩
  · conv => whnf
    exact .done ⟨rfl, rfl⟩
def Hp.minus (h X : Hp) : Hp := fun j => match X j with
  | none => h j
  | some _ => none
theorem Hp.minus_of {h X : Hp} {j : Nat} (hx : X j = none) : h.minus X j = h j := by unfold Hp.minus; rw [hx]
theorem Hp.minus_in {h X : Hp} {j : Nat} (hx : X j ≠ none) : h.minus X j = none := by
  unfold Hp.minus
  cases e : X j with
  | none => exact absurd e hx
  | some o => rfl
theorem Hp.minus_some {h X : Hp} {j : Nat} {o : Obj} (e : h.minus X j = some o) : X j = none ∧ h j = some o := by
  unfold Hp.minus at e
  cases hx : X j with
  | none => rw [hx] at e; exact ⟨rfl, e⟩
  | some o' => rw [hx] at e; cases e
/-- m parts of a partial heap, apart from one another and from the rest B -/
structure FamA (B h : Hp) (m : Nat) (X : Nat → Hp) : Prop where
  le : B.le h
  sub : ∀ i, i < m → (X i).le h
  dB : ∀ i, i < m → ∀ j, X i j ≠ none → B j = none
  dX : ∀ i k, i < m → k < m → i ≠ k → ∀ j, X i j ≠ none → X k j = none
theorem FamA.upd {B h h' X' : Hp} {m i : Nat} {X : Nat → Hp} (f : FamA B h m X) (hi : i < m) (hle : (h.minus (X i)).le h') (hX : X'.le h') (hd : ∀ j, X' j ≠ none → h.minus (X i) j = none) : FamA B h' m (updJ X i X') := by
  have old : ∀ k, k < m → k ≠ i → ∀ j o, X k j = some o → h.minus (X i) j = some o := fun k hk hne j o e => by
    rw [Hp.minus_of (f.dX k i hk hi hne j (by rw [e]; simp))]
    exact f.sub k hk j o e
  refine ⟨fun j o e => hle j o ?_, fun k hk => ?_, fun k hk j hj => ?_, fun a b ha hb hab j hj => ?_⟩
  · rw [Hp.minus_of (by
      cases q : X i j with
      | none => rfl
      | some o' => rw [f.dB i hi j (by rw [q]; simp)] at e; cases e)]
    exact f.le j o e
  · by_cases e : k = i
    · subst e; simp only [updJ, if_true]; exact hX
    · simp only [updJ, if_neg e]; exact fun j o ej => hle j o (old k hk e j o ej)
  · by_cases e : k = i
    · subst e
      simp only [updJ, if_true] at hj
      have := hd j hj
      cases q : B j with
      | none => rfl
      | some o =>
        rw [Hp.minus_of (by
          cases q2 : X k j with
          | none => rfl
          | some o' => rw [f.dB k hk j (by rw [q2]; simp)] at q; cases q), f.le j o q] at this
        cases this
    · simp only [updJ, if_neg e] at hj; exact f.dB k hk j hj
  · by_cases e1 : a = i
    · subst e1
      have hb' : b ≠ a := fun q => hab q.symm
      simp only [updJ, if_true] at hj
      simp only [updJ, if_neg hb']
      have := hd j hj
      cases q : X b j with
      | none => rfl
      | some o => rw [old b hb hb' j o q] at this; cases this
    · simp only [updJ, if_neg e1] at hj
      by_cases e2 : b = i
      · subst e2
        simp only [updJ, if_true]
        cases q : X' j with
        | none => rfl
        | some o =>
          have := hd j (by rw [q]; simp)
          cases q3 : X a j with
          | none => exact absurd q3 hj
          | some o' => rw [old a ha e1 j o' q3] at this; cases this
      · simp only [updJ, if_neg e2]; exact f.dX a b ha hb hab j hj
theorem Tab.at_ {h h' : Hp} {size n : Nat} {A : Option Addr} {rows : List (List Value)} (t : Tab h size A n rows) (e : ∀ g, A = some g → h g.block = h' g.block) : Tab h' size A n rows := by
  refine ⟨t.len, t.wid, t.ad, fun g hg i r hr j v hv => ?_⟩
  have := t.cell g hg i r hr j v hv
  have he := e g hg
  unfold Hp.cell? at this ⊢
  have hb : (g.add (i * size + j)).block = g.block := by unfold Addr.add; split <;> rfl
  rw [hb] at this ⊢
  rw [← he]; exact this
theorem Tab.mem {h : Hp} {n : Nat} {g : Addr} {l : List Int} (t : Tab h 1 (some g) n (l.map fun z => [iv z])) (hn : n ≠ 0) : h g.block ≠ none := by
  have hl : l.length = n := by simpa using t.len
  obtain ⟨z, hz⟩ : ∃ z, l[0]? = some z := ⟨_, List.getElem?_eq_getElem (by omega)⟩
  have := t.one rfl (i := 0) (r := [iv z]) (by rw [List.getElem?_map, hz]; rfl) rfl
  intro hb
  have hbk : (g.add (0 * 1)).block = g.block := by unfold Addr.add; split <;> rfl
  unfold Hp.cell? at this
  rw [hbk, hb] at this
  simp at this
theorem Tab.empty' (h : Hp) (A : Option Addr) : Tab h 1 A 0 (([] : List Int).map fun z => [iv z]) := ⟨rfl, (fun r hr => by cases hr), (fun q => absurd rfl q), fun g _ i r hr => by simp at hr⟩
def marks (i n : Nat) : List Int := (List.range n).map fun (k : Nat) => (i : Int) * 1000003 + k
def tails (i k : Nat) : List Int := (List.range k).map fun (q : Nat) => (0 - (i : Int)) * 1000003 - q - 1
theorem marks_len (i n : Nat) : (marks i n).length = n := by simp [marks]
theorem tails_len (i k : Nat) : (tails i k).length = k := by simp [tails]
theorem tails_add (i k : Nat) : tails i (k + 1) = tails i k ++ [(0 - (i : Int)) * 1000003 - k - 1] := by simp [tails, List.range_succ]
/-- a list (A, n) with its marks, and one grown out of it by k -/
structure PairAt (X : Hp) (i n k : Nat) (A A' : Option Addr) (c' : Nat) : Prop where
  row : RowAt X 3 1 A' (n + k) c' ((marks i n ++ tails i k).map iv)
  two : A' = A ∨ (Tab X 1 A n ((marks i n).map fun z => [iv z]) ∧ (n = 0 ∨ ∀ g g', A = some g → A' = some g' → g.block ≠ g'.block))
theorem PairAt.tab {X : Hp} {i n k c' : Nat} {A A' : Option Addr} (p : PairAt X i n k A A' c') : Tab X 1 A n ((marks i n).map fun z => [iv z]) := by
  rcases p.two with rfl | h
  · have := p.row.one.take (k := n) (by omega)
    rwa [List.map_append, List.take_left' (by simp [marks_len])] at this
  · exact h.1
theorem PairAt.zero {X : Hp} {i n c : Nat} {A : Option Addr} (r : RowAt X 3 1 A n c ((marks i n).map iv)) : PairAt X i n 0 A A c := ⟨by simpa [tails] using r, .inl rfl⟩
/-- the blocks of a pair -/
def pairS (n : Nat) (A : Option Addr) (g' : Addr) : Nat → Prop := fun j => j = g'.block ∨ (n ≠ 0 ∧ ∃ g, A = some g ∧ j = g.block)
theorem PairAt.inplace {B h h2 : Hp} {m i n k c' : Nat} {A : Option Addr} {g' : Addr} {X : Nat → Hp} (f : FamA B h m X) (hi : i < m) (p : PairAt (X i) i n k A (some g') c') (hle : (delA h (some g')).le h2) (hr : RowAt h2 3 1 (some g') (n + (k + 1)) c' ((marks i n ++ tails i (k + 1)).map iv)) :
    FamA B h2 m (updJ X i (h2.on (pairS n A g'))) ∧ PairAt (h2.on (pairS n A g')) i n (k + 1) A (some g') c' := by
  have hg' := p.row.mem rfl
  refine ⟨f.upd hi (fun j o e => ?_) (Hp.on_le _ _) (fun j hj => ?_), ?_⟩
  · obtain ⟨e1, e2⟩ := Hp.minus_some e
    exact hle j o (by rw [delA, Hp.del_ne _ (fun q => hg' (by rw [← q]; exact e1))]; exact e2)
  · rcases Hp.on_ne hj with rfl | ⟨hn, g, rfl, rfl⟩
    · exact Hp.minus_in hg'
    · exact Hp.minus_in (p.tab.mem hn)
  · refine ⟨hr.on fun q e => by injection e with e; subst e; exact .inl rfl, ?_⟩
    rcases p.two with q | ⟨q1, q2⟩
    · exact .inl q
    · refine .inr ⟨?_, q2⟩
      by_cases hn : n = 0
      · subst hn; exact Tab.empty' _ _
      · rcases q2 with q2 | q2
        · exact absurd q2 hn
        · refine q1.at_ fun g hg => ?_
          subst hg
          rw [Hp.on_of (.inr ⟨hn, g, rfl, rfl⟩)]
          have hne := q2 g g' rfl rfl
          cases e : X i g.block with
          | none => exact absurd e (q1.mem hn)
          | some o => exact (hle _ _ (by rw [delA, Hp.del_ne _ hne]; exact f.sub i hi _ _ e)).symm
theorem PairAt.moved {B h h1 h2 : Hp} {m i n k c' c2 : Nat} {A A' : Option Addr} {g2 : Addr} {X : Nat → Hp} (f : FamA B h m X) (hi : i < m) (p : PairAt (X i) i n k A A' c') (hle : (delA h A').le h1) (ho : RowAt h1 3 1 A' (n + k) c' ((marks i n ++ tails i k).map iv)) (hle2 : h1.le h2)
    (hr : RowAt h2 3 1 (some g2) (n + (k + 1)) c2 ((marks i n ++ tails i (k + 1)).map iv)) (hf : h1 g2.block = none) :
    FamA B h2 m (updJ X i (h2.on (pairS n A g2))) ∧ PairAt (h2.on (pairS n A g2)) i n (k + 1) A (some g2) c2 := by
  have hmin : (h.minus (X i)).le h1 := fun j o e => by
    obtain ⟨e1, e2⟩ := Hp.minus_some e
    cases A' with
    | none => exact hle j o e2
    | some g' => exact hle j o (by rw [delA, Hp.del_ne _ (fun q => p.row.mem rfl (by rw [← q]; exact e1))]; exact e2)
  refine ⟨f.upd hi (fun j o e => hle2 j o (hmin j o e)) (Hp.on_le _ _) (fun j hj => ?_), ?_⟩
  · rcases Hp.on_ne hj with rfl | ⟨hn, g, rfl, rfl⟩
    · exact le_none hmin hf
    · exact Hp.minus_in (p.tab.mem hn)
  · refine ⟨hr.on fun q e => by injection e with e; subst e; exact .inl rfl, .inr ?_⟩
    by_cases hn : n = 0
    · subst hn; exact ⟨Tab.empty' _ _, .inl rfl⟩
    · have ht : Tab h1 1 A n ((marks i n).map fun z => [iv z]) := by
        rcases p.two with q | ⟨q1, q2⟩
        · subst q
          have := ho.one.take (k := n) (by omega)
          rwa [List.map_append, List.take_left' (by simp [marks_len])] at this
        · rcases q2 with q2 | q2
          · exact absurd q2 hn
          · refine q1.at_ fun g hg => ?_
            subst hg
            cases e : X i g.block with
            | none => exact absurd e (q1.mem hn)
            | some o =>
              refine (hle _ _ ?_).symm
              cases A' with
              | none => exact f.sub i hi _ _ e
              | some g' => rw [delA, Hp.del_ne _ (q2 g g' rfl rfl)]; exact f.sub i hi _ _ e
      refine ⟨(ht.mono hle2).at_ fun g hg => ?_, .inr fun g g' e1 e2 q => ?_⟩
      · rw [Hp.on_of (.inr ⟨hn, g, hg, rfl⟩)]
      · injection e2 with e2; subst e2; subst e1
        exact ht.mem hn (by rw [q]; exact hf)
abbrev Sl := Option Addr × Nat × Nat
def slv (x : Sl) : Value := .slice x.1 x.2.1 x.2.2
def longC (m : Nat) (J : Nat → Sl) : List Value := (List.range m).map fun i => .slice (J i).1 (J i).2.1 (J i).2.2
theorem longC_set {m i : Nat} {J : Nat → Sl} (x : Sl) : (longC m J).set i (.slice x.1 x.2.1 x.2.2) = longC m (updJ J i x) := by
  apply List.ext_getElem
  · simp [longC]
  · intro v h1 h2
    rw [List.getElem_set]
    by_cases e : i = v
    · subst e; simp [longC, updJ]
    · simp [longC, updJ, e, Ne.symm e]
theorem longC_at {m i : Nat} {J : Nat → Sl} (hi : i < m) : (longC m J)[i]? = some (.slice (J i).1 (J i).2.1 (J i).2.2) := by simp [longC, hi]
theorem longC_len (m : Nat) (J : Nat → Sl) : (longC m J).length = m := by simp [longC]
/-- the lists of numbers, as they lie -/
def Raw (X : Hp) (s : Sl) (l : List Int) : Prop := l.length = s.2.1 ∧ RowAt X 3 1 s.1 s.2.1 s.2.2 (l.map iv)
end Go.Sx
namespace Go.Sx
open Go.Proofs
set_option maxRecDepth 100000
def insF : Fo := .cons 3 0 (.cons 1 1 .nil (.cons 2 2 .nil .nil)) .nil
theorem Tab.lit {h : Hp} {b ty size n : Nat} {cs : List Value} {rows : List (List Value)} (hb : h b = some (.cells cs.toArray ty (0, 0))) (hr : rows.flatten = cs) (hw : ∀ r ∈ rows, r.length = size) (hn : rows.length = n) : Tab h size (some ⟨b, 0, none⟩) n rows := by
  refine ⟨hn, hw, fun _ => ⟨_, rfl⟩, fun g hg i r hi j v hv => ?_⟩
  injection hg with hg
  subst hg
  have := flat_at _ hw i j r v hi hv
  rw [add_lit, Nat.zero_add, Hp.cell?]
  simp only [hb, Option.isSome_none, Bool.false_eq_true, if_false]
  rw [← hr]
  simpa using this
theorem lit_cell {h : Hp} {b : Nat} {l : List Value} {ty : Nat} (hb : h b = some (.cells l.toArray ty (0, 0))) {j : Nat} {v : Value} (hv : l[j]? = some v) : h.cell? ⟨b, j, none⟩ = some v := by
  unfold Hp.cell?; simp [hb, hv]
theorem ins_check : checkF insF = 0 ∧ sizeF insF = sizeV 2 2 1 9 ∧ expF insF = [1, 2, 2, 1, 2, 2, 1, 2, 2] := by
  refine ⟨by decide, ?_, by decide⟩
  unfold sizeF
  rw [if_pos (by decide)]
  rfl
end Go.Sx
namespace Go.Sx
open Go.Proofs
set_option maxRecDepth 100000
def Hp.blk (h : Hp) (D : Option Addr) : Hp := fun j => match D with
  | some g => if j = g.block then h j else none
  | none => none
theorem Hp.blk_le (h : Hp) (D : Option Addr) : (h.blk D).le h := fun j o e => by
  unfold Hp.blk at e
  split at e
  · split at e
    · exact e
    · cases e
  · cases e
theorem Hp.blk_in {h : Hp} {D : Option Addr} {j : Nat} (e : h.blk D j ≠ none) : ∃ g, D = some g ∧ j = g.block := by
  unfold Hp.blk at e
  split at e
  · rename_i g
    split at e
    · rename_i hj; exact ⟨g, rfl, hj⟩
    · exact absurd rfl e
  · exact absurd rfl e
theorem RowAt.blk {h : Hp} {ety size n cap : Nat} {A : Option Addr} {xs : List Value} (x : RowAt h ety size A n cap xs) : RowAt (h.blk A) ety size A n cap xs := by
  obtain ⟨h1, h2⟩ := x
  refine ⟨h1, h2.imp id fun ⟨g, cur, e1, e2, e3⟩ => ⟨g, cur, e1, ?_, e3⟩⟩
  subst e1
  simp only [Hp.blk, if_true]
  exact e2
theorem delA_at {h : Hp} {D : Option Addr} {g : Addr} (e : D = some g) : delA h D g.block = none := by subst e; exact Hp.del_same _ _
theorem delA_off {h : Hp} {D : Option Addr} {j : Nat} (hj : ∀ g, D = some g → j ≠ g.block) : delA h D j = h j := by
  cases D with
  | none => rfl
  | some g => exact Hp.del_ne h (hj g rfl)
end Go.Sx
namespace Go.Sx
open Go.Proofs
set_option maxRecDepth 100000
theorem RowAt.srcn {h : Hp} {n c : Nat} {D : Option Addr} {q : List Int} (x : RowAt h 3 1 D n c (q.map iv)) (L : List LE) : Src L h 1 D n (q.map iv) := by
  have t := x.nums.src L
  rw [flat_nums] at t
  exact t
theorem put_none_ {h : Hp} {b j : Nat} {o : Obj} (hj : h.put b o j = none) : j ≠ b ∧ h j = none := by
  by_cases e : j = b
  · subst e; rw [Hp.put_same] at hj; cases hj
  · exact ⟨e, by rw [Hp.put_ne _ _ e] at hj; exact hj⟩
theorem cell0 {h : Hp} {b ty : Nat} {v : Value} (hb : h b = some (.cells [v].toArray ty (0, 0))) : h.cell? ⟨b, 0, none⟩ = some v := lit_cell hb rfl
theorem le_put2 {hB h : Hp} {b : Nat} {o : Obj} (hle : hB.le h) (hb : hB b = none) : hB.le (h.put b o) := fun j o' e => by
  rw [Hp.put_ne _ _ (fun q => by rw [q, hb] at e; cases e)]; exact hle j o' e
theorem pre_at {pre xs : List Int} {x : Int} (h : pre ++ [x] <+: xs) : ∃ hl : pre.length < xs.length, xs[pre.length] = x := by
  obtain ⟨r, rfl⟩ := h
  exact ⟨by simp, by simp⟩
theorem firs_tot : ∀ f : Fo, Pos f → firs f ≤ tot f
  | .nil, _ => Nat.le_refl _
  | .cons t n b r, ⟨h1, h2, h3⟩ => by
    have i2 := firs_tot r h3
    have i1 := firs_tot b h2
    have hi := ins_pos h2
    have q2 : 1 * ins b ≤ t.toNat * ins b := Nat.mul_le_mul_right _ (by omega)
    rw [tot_cons]
    simp only [firs]
    unfold ins at *
    cases hl : b.leaf <;> simp only [hl, cond_true, cond_false] at * <;> omega
theorem deep_le : ∀ (f : Fo) (d k : Nat), (findF f d k).1 = 0 → d ≤ 16 → d + deep f ≤ 16
  | .nil, _, _, _, hd => by simp only [deep]; omega
  | .cons t n b r, d, k, h, hd => by
    simp only [findF] at h
    split at h
    · rename_i h1
      have i2 := deep_le r d _ h hd
      simp only [deep]
      cases hl : b.leaf with
      | true => simp only [cond_true]; omega
      | false =>
        simp only [cond_false]
        have : d + 1 + deep b ≤ 16 := by
          rw [hl] at h1
          unfold oneF at h1
          repeat' split at h1
          all_goals first | (simp at h1; done) | skip
          · contradiction
          · rename_i hx _ _ _
            exact deep_le b (d + 1) k h1 (by simp at hx; omega)
        omega
    · rename_i h1; exact absurd h h1
theorem tot_zero {f : Fo} (h : Pos f) : (f.len = 0) ↔ (tot f = 0) := by
  cases f with
  | nil => exact ⟨fun _ => rfl, fun _ => rfl⟩
  | cons t n b r =>
    have := tot_pos _ h rfl
    exact ⟨fun e => by simp [Fo.len] at e, fun e => by omega⟩
theorem size_inj {a b c d a' b' c' d' : Nat} (h : sizeV a b c d = sizeV a' b' c' d') : a = a' ∧ b = b' ∧ c = c' ∧ d = d' := by
  simp only [sizeV, iv, List.cons.injEq, Value.int.injEq, true_and, and_true] at h
  omega
end Go.Sx
namespace Go.Sx
open Go.Proofs
set_option maxRecDepth 100000
theorem findF_app (g : Fo) (d : Nat) : ∀ (f : Fo) (k : Nat), findF (f.app g) d k = if (findF f d k).1 = 0 then findF g d (findF f d k).2 else findF f d k
  | .nil, k => by simp [Fo.app, findF]
  | .cons t n b r, k => by
    simp only [Fo.app, findF]
    split
    · exact findF_app g d r _
    · rename_i h; rfl
theorem tot_app (g : Fo) : ∀ f : Fo, tot (f.app g) = tot f + tot g
  | .nil => by simp [Fo.app, tot]
  | .cons t n b r => by
    have := tot_app g r
    simp only [Fo.app, tot] at *
    omega
theorem firs_app (g : Fo) : ∀ f : Fo, firs (f.app g) = firs f + firs g
  | .nil => by simp [Fo.app, firs]
  | .cons t n b r => by
    have := firs_app g r
    simp only [Fo.app, firs] at *
    omega
theorem heads_app (g : Fo) : ∀ f : Fo, heads (f.app g) = heads f + heads g
  | .nil => by simp [Fo.app, heads]
  | .cons t n b r => by
    have := heads_app g r
    simp only [Fo.app, heads] at *
    omega
theorem deep_app (g : Fo) : ∀ f : Fo, deep (f.app g) = max (deep f) (deep g)
  | .nil => by simp [Fo.app, deep]
  | .cons t n b r => by
    have := deep_app g r
    simp only [Fo.app, deep] at *
    omega
theorem flat_app (g : Fo) : ∀ f : Fo, flat (f.app g) = flat f ++ flat g
  | .nil => rfl
  | .cons t n b r => by simp only [Fo.app, flat, flat_app g r, List.append_assoc]
theorem pos_app {g : Fo} : ∀ {f : Fo}, Pos (f.app g) ↔ Pos f ∧ Pos g
  | .nil => ⟨fun h => ⟨trivial, h⟩, fun h => h.2⟩
  | .cons t n b r => by
    have := pos_app (g := g) (f := r)
    simp only [Fo.app, Pos, this]
    constructor
    · rintro ⟨a, b, c, d⟩; exact ⟨⟨a, b, c⟩, d⟩
    · rintro ⟨⟨a, b, c⟩, d⟩; exact ⟨a, b, c, d⟩
theorem firs_pos : ∀ {f : Fo}, f.leaf = false → 1 ≤ firs f
  | .nil, h => by cases h
  | .cons t n b r, _ => by
    simp only [firs]
    cases hl : b.leaf with
    | true => simp only [cond_true]; omega
    | false => have := firs_pos hl; simp only [cond_false]; omega
/-- what passes with some leaves ahead passes with others, as long as there is room -/
theorem findF_shift : ∀ (f : Fo) (d k0 k : Nat), (findF f d k0).1 = 0 → k ≤ 2048 → (k + firs f ≤ 2048 → findF f d k = (0, k + firs f)) ∧ (2048 < k + firs f → (findF f d k).1 = 5)
  | .nil, d, k0, k, _, hk => ⟨fun _ => rfl, fun h => by simp only [firs] at h; omega⟩
  | .cons t n b r, d, k0, k, h, hk => by
    simp only [findF] at h
    split at h
    · rename_i h1
      by_cases hkb : 2048 ≤ k
      · have hf : 1 ≤ firs (.cons t n b r) := firs_pos rfl
        refine ⟨fun h2 => by omega, fun _ => ?_⟩
        have : oneF t n b.leaf d k (findF b (d + 1) k) = (5, k) := by unfold oneF; rw [if_pos hkb]
        simp only [findF, this]
        rw [if_neg (by decide)]
      · unfold oneF at h1
        split at h1
        · cases h1
        rename_i hk0
        split at h1
        · cases h1
        rename_i hd
        split at h1
        · cases h1
        rename_i ht
        split at h1
        · rename_i hl
          split at h1
          · cases h1
          rename_i hn
          have e0 : oneF t n b.leaf d k0 (findF b (d + 1) k0) = (0, k0 + 1) := by unfold oneF; rw [if_neg hk0, if_neg hd, if_neg ht, if_pos hl, if_neg hn]
          have e1 : oneF t n b.leaf d k (findF b (d + 1) k) = (0, k + 1) := by unfold oneF; rw [if_neg hkb, if_neg hd, if_neg ht, if_pos hl, if_neg hn]
          rw [e0] at h
          obtain ⟨i1, i2⟩ := findF_shift r d _ (k + 1) h (by omega)
          simp only [findF, e1]
          rw [if_pos trivial]
          simp only [firs, hl, cond_true]
          refine ⟨fun h2 => ?_, fun h2 => ?_⟩
          · rw [i1 (by omega), show k + 1 + firs r = k + (1 + firs r) by omega]
          · exact i2 (by omega)
        · rename_i hl
          split at h1
          · cases h1
          rename_i hn
          have hl' : b.leaf = false := by cases hq : b.leaf <;> simp_all
          have e0 : oneF t n b.leaf d k0 (findF b (d + 1) k0) = findF b (d + 1) k0 := by unfold oneF; rw [if_neg hk0, if_neg hd, if_neg ht, if_neg hl, if_neg hn]
          have e1 : oneF t n b.leaf d k (findF b (d + 1) k) = findF b (d + 1) k := by unfold oneF; rw [if_neg hkb, if_neg hd, if_neg ht, if_neg hl, if_neg hn]
          rw [e0] at h
          obtain ⟨j1, j2⟩ := findF_shift b (d + 1) k0 k h1 hk
          simp only [findF, e1]
          simp only [firs, hl', cond_false]
          by_cases hb : k + firs b ≤ 2048
          · obtain ⟨i1, i2⟩ := findF_shift r d _ (k + firs b) h hb
            rw [j1 hb, if_pos rfl]
            refine ⟨fun h2 => ?_, fun h2 => i2 (by omega)⟩
            rw [i1 (by omega), show k + firs b + firs r = k + (firs b + firs r) by omega]
          · rw [if_neg (by rw [j2 (by omega)]; decide)]
            exact ⟨fun h2 => by omega, fun _ => j2 (by omega)⟩
    · rename_i h1; exact absurd h h1
theorem findF_two {f : Fo} {d k : Nat} (h : (findF f d k).1 = 0) (hk : k ≤ 2048) : findF f d k = (0, k + firs f) ∧ k + firs f ≤ 2048 := by
  obtain ⟨h1, h2⟩ := findF_shift f d k k h hk
  by_cases hb : k + firs f ≤ 2048
  · exact ⟨h1 hb, hb⟩
  · rw [h2 (by omega)] at h; cases h
/-- both checks and the check of both -/
theorem check_app (f g : Fo) : (checkF (f.app g) = 0 → checkF f = 0 ∧ checkF g = 0) ∧ (checkF f ≠ 0 → checkF f ≠ 5 → checkF (f.app g) = checkF f) ∧
    (checkF f = 0 → checkF g = 0 → (2048 < tot f + tot g → checkF (f.app g) = 5) ∧ (tot f + tot g ≤ 2048 → checkF (f.app g) = 0)) := by
  refine ⟨fun h => ?_, fun h1 h2 => ?_, fun h1 h2 => ?_⟩
  · obtain ⟨a, b⟩ := checkF_ok h
    rw [findF_app] at a
    rw [tot_app] at b
    split at a
    · rename_i hf
      obtain ⟨e, _⟩ := findF_two hf (Nat.zero_le _)
      rw [e] at a
      obtain ⟨e2, hle⟩ := findF_two a (by have := findF_le f 0 0 (Nat.zero_le _); rw [e] at this; exact this)
      have e3 := (findF_shift g 0 _ 0 a (Nat.zero_le _)).1 (by omega)
      exact ⟨by unfold checkF; rw [if_neg (by rw [hf]; decide), if_neg (by omega)], by unfold checkF; rw [if_neg (by rw [e3]; simp), if_neg (by omega)]⟩
    · rename_i hf; exact absurd a hf
  · have hf : (findF f 0 0).1 ≠ 0 := fun e => by
      unfold checkF at h1 h2
      rw [if_neg (by rw [e]; decide)] at h1 h2
      split at h2
      · exact h2 rfl
      · rename_i hx; rw [if_neg hx] at h1; exact h1 rfl
    unfold checkF
    rw [findF_app, if_neg hf, if_pos hf, if_pos hf]
  · obtain ⟨a1, a2⟩ := checkF_ok h1
    obtain ⟨b1, b2⟩ := checkF_ok h2
    obtain ⟨e1, e2⟩ := findF_two a1 (Nat.zero_le _)
    obtain ⟨s1, s2⟩ := findF_shift g 0 0 (0 + firs f) b1 e2
    have pf := firs_tot f (findF_pos _ _ _ a1)
    have pg := firs_tot g (findF_pos _ _ _ b1)
    refine ⟨fun h3 => ?_, fun h3 => ?_⟩
    · unfold checkF
      rw [findF_app, e1, if_pos rfl, tot_app]
      by_cases hb : 0 + firs f + firs g ≤ 2048
      · rw [s1 hb, if_neg (by simp), if_pos h3]
      · have := s2 (by omega)
        simp only at this ⊢
        rw [if_pos (by rw [this]; decide), this]
    · unfold checkF
      rw [findF_app, e1, if_pos rfl, tot_app, s1 (by omega), if_neg (by simp), if_neg (by omega)]
theorem sizeF_ok {f : Fo} (h : checkF f = 0) {a b c d : Nat} (hs : sizeF f = sizeV a b c d) : a = firs f ∧ b = heads f ∧ c = deep f ∧ d = tot f := by
  refine size_inj (hs.symm.trans ?_)
  unfold sizeF
  rw [if_pos h]
theorem sizeF_no {f : Fo} (h : checkF f ≠ 0) {a b c d : Nat} (hs : sizeF f = sizeV a b c d) : a = 0 ∧ b = 0 ∧ c = 0 ∧ d = 0 := by
  refine size_inj (hs.symm.trans ?_)
  unfold sizeF
  rw [if_neg h]
end Go.Sx
namespace Go.Sx
open Go.Proofs
set_option maxRecDepth 100000
theorem findF_deeper : ∀ (f : Fo) (d k : Nat), (findF f d k).1 = 0 → (d + 1 + deep f ≤ 16 → findF f (d + 1) k = findF f d k) ∧ (16 < d + 1 + deep f → f.leaf = false → d + deep f ≤ 16 → 1 ≤ deep f → (findF f (d + 1) k).1 = 161)
  | .nil, d, k, _ => ⟨fun _ => rfl, fun _ h => by cases h⟩
  | .cons t n b r, d, k, h => by
    simp only [findF] at h
    split at h
    · rename_i h1
      obtain ⟨r1, r2⟩ := findF_deeper r d _ h
      unfold oneF at h1
      split at h1
      · cases h1
      rename_i hk
      split at h1
      · cases h1
      rename_i hd
      split at h1
      · cases h1
      rename_i ht
      split at h1
      · rename_i hl
        split at h1
        · cases h1
        rename_i hn
        have e0 : ∀ d rb, oneF t n b.leaf d k rb = (0, k + 1) := fun d rb => by unfold oneF; rw [if_neg hk, if_neg (by rw [hl]; simp), if_neg ht, if_pos hl, if_neg hn]
        rw [e0] at r1 r2
        simp only [findF, e0]
        rw [if_pos trivial, if_pos trivial]
        simp only [deep, hl, cond_true]
        refine ⟨fun h2 => r1 (by omega), fun h2 _ h3 h4 => ?_⟩
        cases hr : r.leaf with
        | true => rw [leaf_nil hr] at h4; simp [deep] at h4
        | false => exact r2 (by omega) hr (by omega) (by omega)
      · rename_i hl
        split at h1
        · cases h1
        rename_i hn
        have hl' : b.leaf = false := by cases hq : b.leaf <;> simp_all
        have e0 : oneF t n b.leaf d k (findF b (d + 1) k) = findF b (d + 1) k := by unfold oneF; rw [if_neg hk, if_neg hd, if_neg ht, if_neg hl, if_neg hn]
        rw [e0] at r1 r2
        obtain ⟨b1, b2⟩ := findF_deeper b (d + 1) k h1
        by_cases h16 : 16 ≤ d + 1
        · have e1 : oneF t n b.leaf (d + 1) k (findF b (d + 1 + 1) k) = (161, k) := by unfold oneF; rw [if_neg hk, if_pos ⟨hl', h16⟩]
          simp only [findF, e0, e1]
          simp only [deep, hl', cond_false]
          exact ⟨fun h2 => by omega, fun _ _ _ _ => by simp⟩
        · have e1 : oneF t n b.leaf (d + 1) k (findF b (d + 1 + 1) k) = findF b (d + 1 + 1) k := by
            unfold oneF; rw [if_neg hk, if_neg (fun hh => h16 hh.2), if_neg ht, if_neg hl, if_neg hn]
          simp only [findF, e0, e1]
          simp only [deep, hl', cond_false]
          by_cases hbd : d + 1 + 1 + deep b ≤ 16
          · rw [b1 hbd, if_pos h1, if_pos h1]
            refine ⟨fun h2 => r1 (by omega), fun h2 _ h3 h4 => ?_⟩
            cases hr : r.leaf with
            | true => rw [leaf_nil hr] at h2; simp [deep] at h2; omega
            | false => exact r2 (by omega) hr (by omega) (by omega)
          · refine ⟨fun h2 => by omega, fun _ _ h3 _ => ?_⟩
            have hdb : 1 ≤ deep b := by omega
            have := b2 (by omega) hl' (by omega) hdb
            rw [if_neg (by rw [this]; decide)]
            exact this
    · rename_i h1; exact absurd h h1
theorem findF_up : ∀ (f : Fo) (d k : Nat), (findF f (d + 1) k).1 = 0 → findF f d k = findF f (d + 1) k
  | .nil, _, _, _ => rfl
  | .cons t n b r, d, k, h => by
    simp only [findF] at h
    split at h
    · rename_i h1
      have r1 := findF_up r d _ h
      have key : oneF t n b.leaf d k (findF b (d + 1) k) = oneF t n b.leaf (d + 1) k (findF b (d + 1 + 1) k) := by
        unfold oneF at h1
        split at h1
        · cases h1
        rename_i hk
        split at h1
        · cases h1
        rename_i hd
        split at h1
        · cases h1
        rename_i ht
        split at h1
        · rename_i hl
          unfold oneF
          simp only [hl, Bool.true_eq_false, false_and, if_false, if_true]
        · rename_i hl
          split at h1
          · cases h1
          rename_i hn
          have b1 := findF_up b (d + 1) k h1
          have hd' : ¬ (b.leaf = false ∧ 16 ≤ d) := fun hh => hd ⟨hh.1, by omega⟩
          unfold oneF
          rw [if_neg hk, if_neg hd', if_neg ht, if_neg hl, if_neg hn, if_neg hk, if_neg hd, if_neg ht, if_neg hl, if_neg hn]
          exact b1
      simp only [findF]
      rw [key, if_pos h1, if_pos h1]
      exact r1
    · rename_i h1; exact absurd h h1
/-- the check of a block that goes round a nest -/
theorem check_round {f : Fo} (hf : f.leaf = false) (k : Int) : (checkF f ≠ 0 → checkF (.cons k 0 f .nil) ≠ 0) ∧ (k < 1 → checkF (.cons k 0 f .nil) = 160) ∧
    (checkF f = 0 → 1 ≤ k → (16 ≤ deep f → checkF (.cons k 0 f .nil) = 161) ∧ (deep f < 16 → (2048 < k.toNat * tot f → checkF (.cons k 0 f .nil) = 5) ∧ (k.toNat * tot f ≤ 2048 → checkF (.cons k 0 f .nil) = 0))) := by
  have htot : tot (.cons k 0 f .nil) = k.toNat * tot f := by simp [tot, hf]
  have neg : k < 1 → findF (.cons k 0 f .nil) 0 0 = (160, 0) := fun hk => by
    have : oneF k 0 f.leaf 0 0 (findF f 1 0) = (160, 0) := by unfold oneF; rw [if_neg (by omega), if_neg (by omega), if_pos hk]
    simp only [findF, Nat.zero_add, this]
    rw [if_neg (by decide)]
  have pos : 1 ≤ k → (findF (.cons k 0 f .nil) 0 0).1 = (findF f 1 0).1 := fun hk => by
    have : oneF k 0 f.leaf 0 0 (findF f 1 0) = findF f 1 0 := by unfold oneF; rw [if_neg (by omega), if_neg (by omega), if_neg (by omega), if_neg (by rw [hf]; decide), if_neg (by decide)]
    simp only [findF, Nat.zero_add, this]
    split
    · rename_i h; exact h.symm
    · rfl
  refine ⟨fun h => ?_, fun hk => ?_, fun h hk => ?_⟩
  · by_cases hk : k < 1
    · unfold checkF
      rw [neg hk]
      simp
    · intro hc
      obtain ⟨a, b⟩ := checkF_ok hc
      rw [pos (by omega)] at a
      have e := findF_up f 0 0 a
      rw [htot] at b
      apply h
      unfold checkF
      rw [e, if_neg (by rw [a]; decide), if_neg ?_]
      have : 1 * tot f ≤ k.toNat * tot f := Nat.mul_le_mul_right _ (by omega)
      omega
  · unfold checkF
    rw [neg hk]
    simp
  · obtain ⟨a, b⟩ := checkF_ok h
    obtain ⟨p, q⟩ := findF_deeper f 0 0 a
    have hd := deep_le f 0 0 a (Nat.zero_le _)
    refine ⟨fun h1 => ?_, fun h1 => ?_⟩
    · have e := q (by omega) hf (by omega) (by omega)
      unfold checkF
      rw [pos hk, e]
      simp
    · have e := p (by omega)
      unfold checkF
      rw [pos hk, e, a, htot, if_neg (by decide)]
      exact ⟨fun h2 => by rw [if_pos h2], fun h2 => by rw [if_neg (by omega)]⟩
end Go.Sx
