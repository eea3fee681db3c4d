/- Layer 16: lists of numbers: compared, lent, kept, apart. Conditions: none. -/
import Derived.Test.YtnfmbjeicloemaaN16O
namespace Go.Sx
open Go.Proofs
theorem take_eq_step {a b : List Int} {k : Nat} (h : a.take k = b.take k) (ha : k < a.length) (hb : k < b.length) : (a.take (k + 1) = b.take (k + 1)) ↔ a[k] = b[k] := by
  rw [take_succ' ha, take_succ' hb, h]
  exact ⟨fun e => by have := List.append_cancel_left e; simpa using this, fun e => by rw [e]⟩
theorem same24 (A B : Option Addr) (n m ca cb : Nat) (a b : List Int) (h : Hp) (hA : Tab h 1 A n (a.map fun z => [iv z])) (hB : Tab h 1 B m (b.map fun z => [iv z])) (hn : n ≤ 9223372036854775806) :
    Fn Try.prog 24 #[.slice A n ca, .slice B m cb] h fun r h' => r = .bool (decide (a = b)) ∧ h' = h := by
  have hal : a.length = n := by simpa using hA.len
  have hbl : b.length = m := by simpa using hB.len
  refine Fn.intro (args := [.slice A n ca, .slice B m cb]) mix14 Try.func24 rfl (by decide) Try.ntmps24 rfl (low24 rfl) rfl ?_
  conv => whnf
  refine br_dec (fun h1 => ?_) (fun h1 => ?_)
  · conv => whnf
    refine .done ⟨?_, rfl⟩
    rw [decide_eq_false (fun e => by subst e; omega)]; rfl
  have hnm : n = m := by omega
  subst hnm
  conv => whnf
  refine .mk Nat [0, 1, 5] (fun k => [.v (.slice A n ca), .v (.slice B n cb), .v (iv k)]) (fun _ => []) (fun k h' => h' = h ∧ k ≤ n ∧ a.take k = b.take k) (fun k => n - k) 0 (fun _ => rfl) ⟨rfl, Nat.zero_le _, by simp⟩ rfl rfl ?_
  rintro k e h' ⟨rfl, hk, heq⟩
  conv => whnf
  refine br_dec (fun h2 => ?_) (fun h2 => ?_)
  · have hk' : k < n := by omega
    obtain ⟨g, hg⟩ := hA.ad (by omega)
    obtain ⟨g2, hg2⟩ := hB.ad (by omega)
    have hst := take_eq_step heq (by omega) (by omega)
    conv => whnf
    refine .mk g hg (by omega) (by omega) ?_
    conv => whnf
    refine .hp (iv (a[k]'(by omega))) (by rw [Int.toNat_natCast]; exact hA.one hg (r := [iv (a[k]'(by omega))]) (by simp [hal, hk']) rfl) ?_
    conv => whnf
    refine .mk g2 hg2 (by omega) (by omega) ?_
    conv => whnf
    refine .hp (iv (b[k]'(by omega))) (by rw [Int.toNat_natCast]; exact hB.one hg2 (r := [iv (b[k]'(by omega))]) (by simp [hbl, hk']) rfl) ?_
    conv => whnf
    refine br_dec (fun h3 => ?_) (fun h3 => ?_)
    · conv => whnf
      refine .done ⟨?_, rfl⟩
      rw [decide_eq_false (fun e => h3 (by subst e; rfl))]; rfl
    · conv => whnf
      refine .ok (by omega) (by omega) ?_
      conv => whnf
      exact ⟨k + 1, rfl, rfl, ⟨rfl, hk', hst.2 (Decidable.not_not.1 h3)⟩, by omega⟩
  · have : k = n := by omega
    subst this
    conv => whnf
    refine .done ⟨?_, rfl⟩
    rw [List.take_of_length_le (by omega), List.take_of_length_le (by omega)] at heq
    rw [decide_eq_true heq]; rfl
theorem map_range {α : Type} {f : Nat → α} {n k : Nat} (hk : k < n) : ((List.range n).map f)[k]? = some (f k) := by
  rw [List.getElem?_map, List.getElem?_range hk]; rfl
theorem ints35 (A : Option Addr) (n c : Nat) (a : List Int) (h : Hp) (hA : Tab h 1 A n (a.map fun z => [iv z])) (hn : n * 8 ≤ 140737488355328) :
    Fn Try.prog 35 #[.slice A n c] h fun r h' => h.le h' ∧ ∃ A' c', r = .slice A' n c' ∧ RowAt h' 3 1 A' n c' (a.map iv) ∧ ∀ g, A' = some g → h g.block = none := by
  refine Fn.intro (args := [.slice A n c]) mix14 Try.func35 rfl (by decide) Try.ntmps35 rfl (low35 rfl) rfl ?_
  conv => whnf
  refine .done (.fresh _ rfl rfl rfl (hA.src _) (by rw [flat_nums]; exact nums_one a) (by simp [maxLen]; omega) hn fun A' cap' hA' => ?_)
  conv => whnf
  refine .pub 0 3 1 A' n cap' _ rfl fun h' hle hr hf => ?_
  have hr : RowAt h' 3 1 A' n cap' (a.map fun z => [iv z]).flatten := hr
  rw [flat_nums] at hr
  exact .done ⟨hle, A', cap', rfl, hr, hf⟩
def marks4 : List Int := [-7770777, -7770777, -7770777, -7770777]
/-- a list lent: its numbers, and marks behind them -/
structure LentL (h : Hp) (A : Option Addr) (r : Nat) (zs : List Int) : Prop where
  len : zs.length = r
  row : Tab h 1 A (r + 4) ((zs ++ marks4).map fun z => [iv z])
theorem LentL.tab {h : Hp} {A : Option Addr} {r : Nat} {zs : List Int} (x : LentL h A r zs) : Tab h 1 A r (zs.map fun z => [iv z]) := by
  have := x.row.take (k := r) (by omega)
  rwa [List.map_append, List.take_left' (by simpa using x.len)] at this
theorem LentL.mono {h h' : Hp} {A : Option Addr} {r : Nat} {zs : List Int} (x : LentL h A r zs) (l : h.le h') : LentL h' A r zs := ⟨x.len, x.row.mono l⟩
theorem map_add0' (A : Option Addr) : A.map (fun a => a.add (0 * 1)) = A := by cases A <;> simp [add_zero]
theorem lent28 (D : Option Addr) (r cap2 : Nat) (zs : List Int) (h : Hp) (hz : Tab h 1 D r (zs.map fun z => [iv z])) (hr : r * 8 ≤ 140737488355328) :
    Fn Try.prog 28 #[.slice D r cap2] h fun v h' => h.le h' ∧ ∃ A', v = .slice A' r (r + 4) ∧ LentL h' A' r zs := by
  have hzl : zs.length = r := by simpa using hz.len
  refine Fn.intro (args := [.slice D r cap2]) mix14 Try.func28 rfl (by decide) Try.ntmps28 rfl (low28 rfl) rfl ?_
  conv => whnf
  refine .ok (by omega) (by omega) ?_
  conv => whnf
  refine EvMake.room (r + 4) rfl (by omega) (by omega) (by omega) fun g => ?_
  conv => whnf
  refine .done (.room 0 g _ _ rfl rfl (hz.src _) (by rw [flat_nums]; exact nums_one zs) (by omega) ?_)
  rw [flat_nums, Nat.zero_add]
  conv => whnf
  refine .mk Nat [0, 3, 4] (fun k => [.v (.slice D r cap2), .v (.slice (some g) (r + k) (r + 4)), .v (iv k)]) (fun k => [.row 3 1 (some g) (r + k) (r + 4) ((zs ++ marks4.take k).map iv)]) (fun k h' => h' = h ∧ k ≤ 4) (fun k => 4 - k) 0 (fun _ => rfl) ⟨rfl, by decide⟩ rfl (by show _ = [LE.row 3 1 (some g) r (r + 4) ((zs ++ []).map iv)]; rw [List.append_nil]; rfl) ?_
  rintro k e h' ⟨rfl, hk⟩
  conv => whnf
  refine br_dec (fun h1 => ?_) (fun h1 => ?_)
  · have hk' : k < 4 := by omega
    conv => whnf
    refine .done (.room 0 g _ [iv (-7770777)] rfl rfl rfl (nums_one [-7770777]) (by omega) ?_)
    conv => whnf
    refine .ok (by omega) (by omega) ?_
    conv => whnf
    refine ⟨k + 1, rfl, ?_, ⟨rfl, hk'⟩, by omega⟩
    have : (zs ++ marks4.take k).map iv ++ [iv (-7770777)] = (zs ++ marks4.take (k + 1)).map iv := by
      match k, hk' with
      | 0, _ => simp [marks4]
      | 1, _ => simp [marks4]
      | 2, _ => simp [marks4]
      | 3, _ => simp [marks4]
    rw [← this]
    rfl
  · obtain rfl : k = 4 := by omega
    conv => whnf
    refine .mk 0 r rfl rfl (Nat.zero_le _) (by omega) fun B hB1 _ => ?_
    obtain rfl : B = some g := by rw [hB1 (by omega), map_add0']
    conv => whnf
    refine .pub 0 3 1 (some g) (r + 4) (r + 4) _ rfl fun h2 hle hro _ => .done ⟨hle, some g, rfl, hzl, ?_⟩
    exact hro.one
theorem kept32 (A D : Option Addr) (r c2 : Nat) (zs : List Int) (h : Hp) (ht : LentL h A r zs) (hz : Tab h 1 D r (zs.map fun z => [iv z])) (hr : r * 8 ≤ 140737488355328) :
    Fn Try.prog 32 #[.slice A r (r + 4), .slice D r c2] h fun v h' => v = .bool true ∧ h' = h := by
  obtain ⟨g, rfl⟩ := ht.row.ad (by omega)
  refine Fn.intro (args := [.slice (some g) r (r + 4), .slice D r c2]) mix14 Try.func32 rfl (by decide) Try.ntmps32 rfl (low32 rfl) rfl ?_
  conv => whnf
  refine .done (.mk _ (same24 _ _ _ _ _ _ _ _ _ ht.tab hz (by omega)) ?_)
  rintro _ h' ⟨rfl, rfl⟩
  rw [decide_eq_true rfl]
  conv => whnf
  refine .ok (by omega) (by omega) ?_
  conv => whnf
  refine .mk 0 (r + 4) rfl rfl (Nat.zero_le _) (Nat.le_refl _) fun B hB1 _ => ?_
  obtain rfl : B = some g := by rw [hB1 (by omega), map_add0']
  conv => whnf
  refine .mk Nat [5, 6] (fun k => [.v (.slice (some g) (r + 4) (r + 4)), .v (iv ((r + k : Nat) : Int))]) (fun _ => []) (fun k h2 => h2 = h' ∧ k ≤ 4) (fun k => 4 - k) 0 (fun _ => rfl) ⟨rfl, by decide⟩ rfl rfl ?_
  rintro k e h2 ⟨rfl, hk⟩
  conv => whnf
  refine br_dec (fun h1 => ?_) (fun h1 => ?_)
  · have hk' : k < 4 := by omega
    have hget : ((zs ++ marks4).map fun z => [iv z])[r + k]? = some [iv (-7770777)] := by
      rw [List.getElem?_map, List.getElem?_append_right (by rw [ht.len]; omega), ht.len, Nat.add_sub_cancel_left]
      match k, hk' with
      | 0, _ => rfl
      | 1, _ => rfl
      | 2, _ => rfl
      | 3, _ => rfl
    conv => whnf
    refine .mk g rfl (by omega) (by omega) ?_
    conv => whnf
    refine .hp (iv (-7770777)) (by rw [Int.toNat_natCast]; exact ht.row.one rfl hget rfl) ?_
    conv => whnf
    refine .ok (by omega) (by omega) ?_
    conv => whnf
    exact ⟨k + 1, rfl, rfl, ⟨rfl, hk'⟩, by omega⟩
  · conv => whnf
    exact .done ⟨rfl, rfl⟩
def Hp.minus (h X : Hp) : Hp := fun j => match X j with
  | none => h j
  | some _ => none
theorem Hp.minus_of {h X : Hp} {j : Nat} (hx : X j = none) : h.minus X j = h j := by unfold Hp.minus; rw [hx]
theorem Hp.minus_in {h X : Hp} {j : Nat} (hx : X j ≠ none) : h.minus X j = none := by
  unfold Hp.minus
  cases e : X j with
  | none => exact absurd e hx
  | some o => rfl
theorem Hp.minus_some {h X : Hp} {j : Nat} {o : Obj} (e : h.minus X j = some o) : X j = none ∧ h j = some o := by
  unfold Hp.minus at e
  cases hx : X j with
  | none => rw [hx] at e; exact ⟨rfl, e⟩
  | some o' => rw [hx] at e; cases e
/-- m parts of a partial heap, apart from one another and from the rest B -/
structure FamA (B h : Hp) (m : Nat) (X : Nat → Hp) : Prop where
  le : B.le h
  sub : ∀ i, i < m → (X i).le h
  dB : ∀ i, i < m → ∀ j, X i j ≠ none → B j = none
  dX : ∀ i k, i < m → k < m → i ≠ k → ∀ j, X i j ≠ none → X k j = none
theorem FamA.upd {B h h' X' : Hp} {m i : Nat} {X : Nat → Hp} (f : FamA B h m X) (hi : i < m) (hle : (h.minus (X i)).le h') (hX : X'.le h') (hd : ∀ j, X' j ≠ none → h.minus (X i) j = none) : FamA B h' m (updJ X i X') := by
  have old : ∀ k, k < m → k ≠ i → ∀ j o, X k j = some o → h.minus (X i) j = some o := fun k hk hne j o e => by
    rw [Hp.minus_of (f.dX k i hk hi hne j (by rw [e]; simp))]
    exact f.sub k hk j o e
  refine ⟨fun j o e => hle j o ?_, fun k hk => ?_, fun k hk j hj => ?_, fun a b ha hb hab j hj => ?_⟩
  · rw [Hp.minus_of (by
      cases q : X i j with
      | none => rfl
      | some o' => rw [f.dB i hi j (by rw [q]; simp)] at e; cases e)]
    exact f.le j o e
  · by_cases e : k = i
    · subst e; simp only [updJ, if_true]; exact hX
    · simp only [updJ, if_neg e]; exact fun j o ej => hle j o (old k hk e j o ej)
  · by_cases e : k = i
    · subst e
      simp only [updJ, if_true] at hj
      have := hd j hj
      cases q : B j with
      | none => rfl
      | some o =>
        rw [Hp.minus_of (by
          cases q2 : X k j with
          | none => rfl
          | some o' => rw [f.dB k hk j (by rw [q2]; simp)] at q; cases q), f.le j o q] at this
        cases this
    · simp only [updJ, if_neg e] at hj; exact f.dB k hk j hj
  · by_cases e1 : a = i
    · subst e1
      have hb' : b ≠ a := fun q => hab q.symm
      simp only [updJ, if_true] at hj
      simp only [updJ, if_neg hb']
      have := hd j hj
      cases q : X b j with
      | none => rfl
      | some o => rw [old b hb hb' j o q] at this; cases this
    · simp only [updJ, if_neg e1] at hj
      by_cases e2 : b = i
      · subst e2
        simp only [updJ, if_true]
        cases q : X' j with
        | none => rfl
        | some o =>
          have := hd j (by rw [q]; simp)
          cases q3 : X a j with
          | none => exact absurd q3 hj
          | some o' => rw [old a ha e1 j o' q3] at this; cases this
      · simp only [updJ, if_neg e2]; exact f.dX a b ha hb hab j hj
theorem Tab.at_ {h h' : Hp} {size n : Nat} {A : Option Addr} {rows : List (List Value)} (t : Tab h size A n rows) (e : ∀ g, A = some g → h g.block = h' g.block) : Tab h' size A n rows := by
  refine ⟨t.len, t.wid, t.ad, fun g hg i r hr j v hv => ?_⟩
  have := t.cell g hg i r hr j v hv
  have he := e g hg
  unfold Hp.cell? at this ⊢
  have hb : (g.add (i * size + j)).block = g.block := by unfold Addr.add; split <;> rfl
  rw [hb] at this ⊢
  rw [← he]; exact this
theorem Tab.mem {h : Hp} {n : Nat} {g : Addr} {l : List Int} (t : Tab h 1 (some g) n (l.map fun z => [iv z])) (hn : n ≠ 0) : h g.block ≠ none := by
  have hl : l.length = n := by simpa using t.len
  obtain ⟨z, hz⟩ : ∃ z, l[0]? = some z := ⟨_, List.getElem?_eq_getElem (by omega)⟩
  have := t.one rfl (i := 0) (r := [iv z]) (by rw [List.getElem?_map, hz]; rfl) rfl
  intro hb
  have hbk : (g.add (0 * 1)).block = g.block := by unfold Addr.add; split <;> rfl
  unfold Hp.cell? at this
  rw [hbk, hb] at this
  simp at this
theorem Tab.empty' (h : Hp) (A : Option Addr) : Tab h 1 A 0 (([] : List Int).map fun z => [iv z]) := ⟨rfl, (fun r hr => by cases hr), (fun q => absurd rfl q), fun g _ i r hr => by simp at hr⟩
def marks (i n : Nat) : List Int := (List.range n).map fun (k : Nat) => (i : Int) * 1000003 + k
def tails (i k : Nat) : List Int := (List.range k).map fun (q : Nat) => (0 - (i : Int)) * 1000003 - q - 1
theorem marks_len (i n : Nat) : (marks i n).length = n := by simp [marks]
theorem tails_len (i k : Nat) : (tails i k).length = k := by simp [tails]
theorem tails_add (i k : Nat) : tails i (k + 1) = tails i k ++ [(0 - (i : Int)) * 1000003 - k - 1] := by simp [tails, List.range_succ]
/-- a list (A, n) with its marks, and one grown out of it by k -/
structure PairAt (X : Hp) (i n k : Nat) (A A' : Option Addr) (c' : Nat) : Prop where
  row : RowAt X 3 1 A' (n + k) c' ((marks i n ++ tails i k).map iv)
  two : A' = A ∨ (Tab X 1 A n ((marks i n).map fun z => [iv z]) ∧ (n = 0 ∨ ∀ g g', A = some g → A' = some g' → g.block ≠ g'.block))
theorem PairAt.tab {X : Hp} {i n k c' : Nat} {A A' : Option Addr} (p : PairAt X i n k A A' c') : Tab X 1 A n ((marks i n).map fun z => [iv z]) := by
  rcases p.two with rfl | h
  · have := p.row.one.take (k := n) (by omega)
    rwa [List.map_append, List.take_left' (by simp [marks_len])] at this
  · exact h.1
theorem PairAt.zero {X : Hp} {i n c : Nat} {A : Option Addr} (r : RowAt X 3 1 A n c ((marks i n).map iv)) : PairAt X i n 0 A A c := ⟨by simpa [tails] using r, .inl rfl⟩
/-- the blocks of a pair -/
def pairS (n : Nat) (A : Option Addr) (g' : Addr) : Nat → Prop := fun j => j = g'.block ∨ (n ≠ 0 ∧ ∃ g, A = some g ∧ j = g.block)
theorem PairAt.inplace {B h h2 : Hp} {m i n k c' : Nat} {A : Option Addr} {g' : Addr} {X : Nat → Hp} (f : FamA B h m X) (hi : i < m) (p : PairAt (X i) i n k A (some g') c') (hle : (delA h (some g')).le h2) (hr : RowAt h2 3 1 (some g') (n + (k + 1)) c' ((marks i n ++ tails i (k + 1)).map iv)) :
    FamA B h2 m (updJ X i (h2.on (pairS n A g'))) ∧ PairAt (h2.on (pairS n A g')) i n (k + 1) A (some g') c' := by
  have hg' := p.row.mem rfl
  refine ⟨f.upd hi (fun j o e => ?_) (Hp.on_le _ _) (fun j hj => ?_), ?_⟩
  · obtain ⟨e1, e2⟩ := Hp.minus_some e
    exact hle j o (by rw [delA, Hp.del_ne _ (fun q => hg' (by rw [← q]; exact e1))]; exact e2)
  · rcases Hp.on_ne hj with rfl | ⟨hn, g, rfl, rfl⟩
    · exact Hp.minus_in hg'
    · exact Hp.minus_in (p.tab.mem hn)
  · refine ⟨hr.on fun q e => by injection e with e; subst e; exact .inl rfl, ?_⟩
    rcases p.two with q | ⟨q1, q2⟩
    · exact .inl q
    · refine .inr ⟨?_, q2⟩
      by_cases hn : n = 0
      · subst hn; exact Tab.empty' _ _
      · rcases q2 with q2 | q2
        · exact absurd q2 hn
        · refine q1.at_ fun g hg => ?_
          subst hg
          rw [Hp.on_of (.inr ⟨hn, g, rfl, rfl⟩)]
          have hne := q2 g g' rfl rfl
          cases e : X i g.block with
          | none => exact absurd e (q1.mem hn)
          | some o => exact (hle _ _ (by rw [delA, Hp.del_ne _ hne]; exact f.sub i hi _ _ e)).symm
theorem PairAt.moved {B h h1 h2 : Hp} {m i n k c' c2 : Nat} {A A' : Option Addr} {g2 : Addr} {X : Nat → Hp} (f : FamA B h m X) (hi : i < m) (p : PairAt (X i) i n k A A' c') (hle : (delA h A').le h1) (ho : RowAt h1 3 1 A' (n + k) c' ((marks i n ++ tails i k).map iv)) (hle2 : h1.le h2)
    (hr : RowAt h2 3 1 (some g2) (n + (k + 1)) c2 ((marks i n ++ tails i (k + 1)).map iv)) (hf : h1 g2.block = none) :
    FamA B h2 m (updJ X i (h2.on (pairS n A g2))) ∧ PairAt (h2.on (pairS n A g2)) i n (k + 1) A (some g2) c2 := by
  have hmin : (h.minus (X i)).le h1 := fun j o e => by
    obtain ⟨e1, e2⟩ := Hp.minus_some e
    cases A' with
    | none => exact hle j o e2
    | some g' => exact hle j o (by rw [delA, Hp.del_ne _ (fun q => p.row.mem rfl (by rw [← q]; exact e1))]; exact e2)
  refine ⟨f.upd hi (fun j o e => hle2 j o (hmin j o e)) (Hp.on_le _ _) (fun j hj => ?_), ?_⟩
  · rcases Hp.on_ne hj with rfl | ⟨hn, g, rfl, rfl⟩
    · exact le_none hmin hf
    · exact Hp.minus_in (p.tab.mem hn)
  · refine ⟨hr.on fun q e => by injection e with e; subst e; exact .inl rfl, .inr ?_⟩
    by_cases hn : n = 0
    · subst hn; exact ⟨Tab.empty' _ _, .inl rfl⟩
    · have ht : Tab h1 1 A n ((marks i n).map fun z => [iv z]) := by
        rcases p.two with q | ⟨q1, q2⟩
        · subst q
          have := ho.one.take (k := n) (by omega)
          rwa [List.map_append, List.take_left' (by simp [marks_len])] at this
        · rcases q2 with q2 | q2
          · exact absurd q2 hn
          · refine q1.at_ fun g hg => ?_
            subst hg
            cases e : X i g.block with
            | none => exact absurd e (q1.mem hn)
            | some o =>
              refine (hle _ _ ?_).symm
              cases A' with
              | none => exact f.sub i hi _ _ e
              | some g' => rw [delA, Hp.del_ne _ (q2 g g' rfl rfl)]; exact f.sub i hi _ _ e
      refine ⟨(ht.mono hle2).at_ fun g hg => ?_, .inr fun g g' e1 e2 q => ?_⟩
      · rw [Hp.on_of (.inr ⟨hn, g, hg, rfl⟩)]
      · injection e2 with e2; subst e2; subst e1
        exact ht.mem hn (by rw [q]; exact hf)
abbrev Sl := Option Addr × Nat × Nat
def slv (x : Sl) : Value := .slice x.1 x.2.1 x.2.2
def longC (m : Nat) (J : Nat → Sl) : List Value := (List.range m).map fun i => .slice (J i).1 (J i).2.1 (J i).2.2
theorem longC_set {m i : Nat} {J : Nat → Sl} (x : Sl) : (longC m J).set i (.slice x.1 x.2.1 x.2.2) = longC m (updJ J i x) := by
  apply List.ext_getElem
  · simp [longC]
  · intro v h1 h2
    rw [List.getElem_set]
    by_cases e : i = v
    · subst e; simp [longC, updJ]
    · simp [longC, updJ, e, Ne.symm e]
theorem longC_at {m i : Nat} {J : Nat → Sl} (hi : i < m) : (longC m J)[i]? = some (.slice (J i).1 (J i).2.1 (J i).2.2) := by simp [longC, hi]
theorem longC_len (m : Nat) (J : Nat → Sl) : (longC m J).length = m := by simp [longC]
/-- the lists of numbers, as they lie -/
def Raw (X : Hp) (s : Sl) (l : List Int) : Prop := l.length = s.2.1 ∧ RowAt X 3 1 s.1 s.2.1 s.2.2 (l.map iv)
theorem apart25 {B h : Hp} {m c0 : Nat} {A0 : Option Addr} {X : Nat → Hp} (I : Nat → Sl) (f : FamA B h m X) (ht : Tab B 1 A0 m ((List.range m).map fun i => [Value.slice (I i).1 (I i).2.1 (I i).2.2])) (hraw : ∀ i, i < m → ∃ l, Raw (X i) (I i) l) (hm : m ≤ 4294967296) (hn : ∀ i, i < m → (I i).2.1 ≤ 1000000) :
    Fn Try.prog 25 #[.slice A0 m c0] h fun v h' => v = .bool true ∧ B.le h' := by
  refine Fn.intro (args := [.slice A0 m c0]) mix14 Try.func25 rfl (by decide) Try.ntmps25 rfl (low25 rfl) rfl ?_
  conv => whnf
  refine EvMake.one m (.slice none 0 0) rfl rfl rfl rfl (by omega) (by omega) fun gl => ?_
  rw [show List.replicate m (Value.slice none 0 0) = longC m fun _ => (none, 0, 0) by simp [longC, List.map_const']]
  conv => whnf
  refine .mk (Nat × (Nat → Hp) × (Nat → Sl)) [0, 3, 4] (fun (i, _, _) => [.v (.slice A0 m c0), .v (.slice (some gl) m m), .v (iv i)]) (fun (_, _, J) => [.row 35 1 (some gl) m m (longC m J)])
    (fun (i, X, J) h' => FamA B h' m X ∧ i ≤ m ∧ ∀ q, q < m → ∃ l, Raw (X q) (I q) l ∧ (q < i → l = marks q (I q).2.1 ∧ J q = I q)) (fun (i, _, _) => m - i) (0, X, fun _ => (none, 0, 0)) (fun (_, _, _) => rfl)
    ⟨f, Nat.zero_le _, fun q hq => by obtain ⟨l, hl⟩ := hraw q hq; exact ⟨l, hl, fun h => absurd h (Nat.not_lt_zero q)⟩⟩ rfl rfl ?_
  rintro ⟨i, X, J⟩ e h1 ⟨f, hi, hst⟩
  conv => whnf
  refine br_dec (fun u1 => ?_) (fun u1 => ?_)
  · have hi' : i < m := by omega
    have hni := hn i hi'
    obtain ⟨g0, hg0⟩ := ht.ad (by omega)
    have hload : ∀ hh : Hp, B.le hh → hh.cell? (g0.add (i * 1)) = some (.slice (I i).1 (I i).2.1 (I i).2.2) := fun hh hl => (ht.mono hl).one hg0 (map_range hi') rfl
    obtain ⟨l0, hl0, _⟩ := hst i hi'
    conv => whnf
    refine .mk (Nat × (Nat → Hp)) [0, 3, 4, 5] (fun (k, _) => [.v (.slice A0 m c0), .v (.slice (some gl) m m), .v (iv i), .v (iv k)]) (fun _ => [.row 35 1 (some gl) m m (longC m J)])
      (fun (k, X) h' => FamA B h' m X ∧ k ≤ (I i).2.1 ∧ (∃ l, Raw (X i) (I i) l ∧ l.take k = (marks i (I i).2.1).take k) ∧ ∀ q, q < m → q ≠ i → ∃ l, Raw (X q) (I q) l ∧ (q < i → l = marks q (I q).2.1 ∧ J q = I q)) (fun (k, _) => (I i).2.1 - k) (0, X) (fun (_, _) => rfl)
      ⟨f, Nat.zero_le _, ⟨l0, hl0, by simp⟩, fun q hq _ => hst q hq⟩ rfl rfl ?_
    rintro ⟨k, X⟩ e2 h2 ⟨f, hk, ⟨l, ⟨hll, hro⟩, hlt⟩, hoth⟩
    conv => whnf
    refine .mk g0 hg0 (by omega) (by omega) ?_
    conv => whnf
    refine .hp _ (by rw [Int.toNat_natCast]; exact hload _ f.le) ?_
    conv => whnf
    refine br_dec (fun u2 => ?_) (fun u2 => ?_)
    · have hk' : k < (I i).2.1 := by omega
      obtain ⟨g, cs, cs', e1, e2, e3, e4⟩ := (hro.mono (f.sub i hi')).write (off := k) (by omega) (iv ((i : Int) * 1000003 + k))
      have hgX := hro.mem e1
      conv => whnf
      refine .mk g0 hg0 (by omega) (by omega) ?_
      conv => whnf
      refine .hp _ (by rw [Int.toNat_natCast]; exact hload _ f.le) ?_
      conv => whnf
      refine .ok (by omega) (by omega) ?_
      conv => whnf
      refine .ok (by omega) (by omega) ?_
      conv => whnf
      refine .mk ⟨g, 0, none⟩ e1 (by omega) (by omega) ?_
      conv => whnf
      refine .hp g k 3 cs cs' (by rw [Int.toNat_natCast, add_lit, Nat.mul_one, Nat.zero_add]) e2 e3 ?_
      conv => whnf
      refine .ok (by omega) (by omega) ?_
      conv => whnf
      have hmk : (marks i (I i).2.1)[k]'(by rw [marks_len]; exact hk') = (i : Int) * 1000003 + k := by simp [marks]
      have f2 := f.upd (h' := h2.put g (.cells cs'.toArray 3 (0, 0))) (X' := (h2.put g (.cells cs'.toArray 3 (0, 0))).on fun j => j = g) hi' (fun j o q => by
        obtain ⟨q1, q2⟩ := Hp.minus_some q
        rw [Hp.put_ne _ _ (fun w => hgX (by rw [show (⟨g, 0, none⟩ : Addr).block = g from rfl, ← w]; exact q1))]
        exact q2) (Hp.on_le _ _) (fun j hj => by rw [Hp.on_ne hj]; exact Hp.minus_in hgX)
      refine ⟨(k + 1, updJ X i ((h2.put g (.cells cs'.toArray 3 (0, 0))).on fun j => j = g)), rfl, rfl, ⟨f2, hk', ⟨l.set k ((i : Int) * 1000003 + k), ⟨by simp [hll], ?_⟩, ?_⟩, fun q hq hne => ?_⟩, by show (I i).2.1 - (k + 1) < (I i).2.1 - k; omega⟩
      · simp only [updJ, if_true]
        rw [List.map_set]
        exact e4.on fun q hq => by rw [e1] at hq; injection hq with hq; subst hq; rfl
      · rw [take_succ' (by simp; omega), take_succ' (by rw [marks_len]; exact hk'), hmk, List.take_set_of_le (Nat.le_refl k), hlt]
        simp
      · simp only [updJ, if_neg hne]; exact hoth q hq hne
    · have hkn : k = (I i).2.1 := by omega
      have hlm : l = marks i (I i).2.1 := by
        rw [hkn, List.take_of_length_le (by omega), List.take_of_length_le (by rw [marks_len]; omega)] at hlt
        exact hlt
      conv => whnf
      refine .mk g0 hg0 (by omega) (by omega) ?_
      conv => whnf
      refine .hp _ (by rw [Int.toNat_natCast]; exact hload _ f.le) ?_
      conv => whnf
      refine .mk gl rfl (by omega) (by omega) ?_
      conv => whnf
      refine .row 0 35 1 gl m m _ _ i rfl (by rw [Int.toNat_natCast, Nat.mul_one]) (over_one _ _ _ (by rw [longC_len]; exact hi')) ?_
      conv => whnf
      refine .ok (by omega) (by omega) ?_
      conv => whnf
      refine ⟨(i + 1, X, updJ J i (I i)), rfl, ?_, ⟨f, hi', fun q hq => ?_⟩, by show m - (i + 1) < m - i; omega⟩
      · show _ = [LE.row 35 1 (some gl) m m (longC m (updJ J i (I i)))]
        rw [← longC_set]; rfl
      · by_cases hqi : q = i
        · subst hqi
          exact ⟨l, ⟨hll, hro⟩, fun _ => ⟨hlm, by simp [updJ]⟩⟩
        · obtain ⟨l', a1, a2⟩ := hoth q hq hqi
          refine ⟨l', a1, fun hlt2 => ?_⟩
          obtain ⟨b1, b2⟩ := a2 (by omega)
          exact ⟨b1, by simp only [updJ, if_neg hqi]; exact b2⟩
  · have hst2 : ∀ q, q < m → RowAt (X q) 3 1 (I q).1 (I q).2.1 (I q).2.2 ((marks q (I q).2.1).map iv) ∧ J q = I q := fun q hq => by
      obtain ⟨l, ⟨_, a2⟩, a3⟩ := hst q hq
      obtain ⟨rfl, a4⟩ := a3 (by omega)
      exact ⟨a2, a4⟩
    conv => whnf
    refine .mk (Nat × (Nat → Hp) × (Nat → Sl)) [0, 3, 6] (fun (i, _, _) => [.v (.slice A0 m c0), .v (.slice (some gl) m m), .v (iv i)]) (fun (_, _, J) => [.row 35 1 (some gl) m m (longC m J)])
      (fun (i, X, J) h' => FamA B h' m X ∧ i ≤ m ∧ ∀ q, q < m → PairAt (X q) q (I q).2.1 (if q < i then 16 else 0) (I q).1 (J q).1 (J q).2.2 ∧ (J q).2.1 = (I q).2.1 + (if q < i then 16 else 0)) (fun (i, _, _) => m - i) (0, X, J) (fun (_, _, _) => rfl)
      ⟨f, Nat.zero_le _, fun q hq => by obtain ⟨a1, a2⟩ := hst2 q hq; rw [a2]; exact ⟨PairAt.zero a1, rfl⟩⟩ rfl rfl ?_
    rintro ⟨i, X, J⟩ e h1 ⟨f, hi, hst⟩
    conv => whnf
    refine br_dec (fun u1 => ?_) (fun u1 => ?_)
    · have hi' : i < m := by omega
      have hni := hn i hi'
      obtain ⟨p0, p1⟩ := hst i hi'
      rw [if_neg (Nat.lt_irrefl i)] at p0 p1
      conv => whnf
      refine .mkS [0] (Nat × (Nat → Hp) × (Nat → Sl)) [0, 3, 6, 7] (fun (k, _, _) => [.v (.slice A0 m c0), .v (.slice (some gl) m m), .v (iv i), .v (iv k)]) (fun (_, _, J) => [.row 35 1 (some gl) m m (longC m J)])
        (fun (k, X, J) h' => FamA B h' m X ∧ k ≤ 16 ∧ (PairAt (X i) i (I i).2.1 k (I i).1 (J i).1 (J i).2.2 ∧ (J i).2.1 = (I i).2.1 + k) ∧ ∀ q, q < m → q ≠ i → PairAt (X q) q (I q).2.1 (if q < i then 16 else 0) (I q).1 (J q).1 (J q).2.2 ∧ (J q).2.1 = (I q).2.1 + (if q < i then 16 else 0)) (fun (k, _, _) => 16 - k) (0, X, J) (fun (_, _, _) => rfl)
        ⟨f, Nat.zero_le _, ⟨p0, p1⟩, fun q hq _ => hst q hq⟩ rfl rfl rfl ?_
      rintro ⟨k, X, J⟩ e2 h2 ⟨f, hk, ⟨p, hJ⟩, hoth⟩
      refine .done ?_
      conv => whnf
      refine br_dec (fun u2 => ?_) (fun u2 => ?_)
      · have hk' : k < 16 := by omega
        have oth : ∀ (X' : Hp) (s : Sl), ∀ q, q < m → q ≠ i → PairAt (updJ X i X' q) q (I q).2.1 (if q < i then 16 else 0) (I q).1 (updJ J i s q).1 (updJ J i s q).2.2 ∧ (updJ J i s q).2.1 = (I q).2.1 + (if q < i then 16 else 0) := fun X' s q hq hne => by
          simp only [updJ, if_neg hne]; exact hoth q hq hne
        have hval : (marks i (I i).2.1 ++ tails i k).map iv ++ [iv ((0 - (i : Int)) * 1000003 - k - 1)] = (marks i (I i).2.1 ++ tails i (k + 1)).map iv := by
          rw [tails_add, ← List.append_assoc, List.map_append (l₂ := [(0 - (i : Int)) * 1000003 - k - 1])]; rfl
        conv => whnf
        refine .mk gl rfl (by omega) (by omega) ?_
        conv => whnf
        refine .row 0 35 1 gl m m _ i _ rfl (by rw [Int.toNat_natCast, Nat.mul_one]) (longC_at hi') ?_
        conv => whnf
        refine .ok (by omega) (by omega) ?_
        conv => whnf
        refine .ok (by omega) (by omega) ?_
        conv => whnf
        refine .ok (by omega) (by omega) ?_
        conv => whnf
        refine .ok (by omega) (by omega) ?_
        conv => whnf
        have hrow := p.row.mono (f.sub i hi')
        rw [hJ]
        cases hA : (J i).1 with
        | none =>
          rw [hA] at p hrow
          have hz : (I i).2.1 + k = 0 := by
            rcases hrow.2 with ⟨_, q, _⟩ | ⟨_, _, q, _⟩
            · exact q
            · cases q
          refine .abs 3 1 none ((I i).2.1 + k) (J i).2.2 _ hrow (.done (.old 2 _ [iv ((0 - (i : Int)) * 1000003 - k - 1)] rfl rfl (nums_one [(0 - (i : Int)) * 1000003 - k - 1]) (by simp [maxLen]; omega) (by omega) fun A2 c2 hA2 => ?_))
          obtain ⟨g2, rfl⟩ : ∃ g2, A2 = some g2 := by
            cases A2 with
            | none => have := (hA2.1.1 rfl).2; omega
            | some g2 => exact ⟨g2, rfl⟩
          conv => whnf
          refine .mk gl rfl (by omega) (by omega) ?_
          conv => whnf
          refine .row 0 35 1 gl m m _ _ i rfl (by rw [Int.toNat_natCast, Nat.mul_one]) (over_one _ _ _ (by rw [longC_len]; exact hi')) ?_
          conv => whnf
          refine .ok (by omega) (by omega) ?_
          conv => whnf
          refine .pub 2 3 1 (some g2) ((I i).2.1 + k + 1) c2 _ rfl fun h4 hl4 hr4 hf4 => .done ?_
          have hr4 : RowAt h4 3 1 (some g2) ((I i).2.1 + k + 1) c2 ((marks i (I i).2.1 ++ tails i k).map iv ++ [iv ((0 - (i : Int)) * 1000003 - k - 1)]) := hr4
          rw [hval] at hr4
          obtain ⟨f3, p3⟩ := p.moved f hi' (Hp.le_refl _) hrow hl4 hr4 (hf4 g2 rfl)
          refine ⟨(k + 1, updJ X i _, updJ J i (some g2, (I i).2.1 + k + 1, c2)), rfl, ?_, ⟨f3, hk', ⟨?_, ?_⟩, oth _ _⟩, by show 16 - (k + 1) < 16 - k; omega⟩
          · show _ = [LE.row 35 1 (some gl) m m (longC m (updJ J i (some g2, (I i).2.1 + k + 1, c2)))]
            rw [← longC_set]; rfl
          · simp only [updJ, if_true]; exact p3
          · simp only [updJ, if_true]; omega
        | some g1 =>
          rw [hA] at p hrow
          refine .abs 3 1 (some g1) ((I i).2.1 + k) (J i).2.2 _ hrow (.done (.keep 2 g1 _ [iv ((0 - (i : Int)) * 1000003 - k - 1)] rfl rfl rfl (nums_one [(0 - (i : Int)) * 1000003 - k - 1]) (by decide) (by simp [maxLen]; omega) (by omega) (fun _ => ?_) (fun _ g2 c2 _ => ?_)))
          · conv => whnf
            refine .mk gl rfl (by omega) (by omega) ?_
            conv => whnf
            refine .row 0 35 1 gl m m _ _ i rfl (by rw [Int.toNat_natCast, Nat.mul_one]) (over_one _ _ _ (by rw [longC_len]; exact hi')) ?_
            conv => whnf
            refine .ok (by omega) (by omega) ?_
            conv => whnf
            refine .pub 2 3 1 (some g1) ((I i).2.1 + k + 1) (J i).2.2 _ rfl fun h4 hl4 hr4 hf4 => .done ?_
            have hr4 : RowAt h4 3 1 (some g1) ((I i).2.1 + k + 1) (J i).2.2 ((marks i (I i).2.1 ++ tails i k).map iv ++ [iv ((0 - (i : Int)) * 1000003 - k - 1)]) := hr4
            rw [hval] at hr4
            obtain ⟨f3, p3⟩ := p.inplace f hi' hl4 hr4
            refine ⟨(k + 1, updJ X i _, updJ J i (some g1, (I i).2.1 + k + 1, (J i).2.2)), rfl, ?_, ⟨f3, hk', ⟨?_, ?_⟩, oth _ _⟩, by show 16 - (k + 1) < 16 - k; omega⟩
            · show _ = [LE.row 35 1 (some gl) m m (longC m (updJ J i (some g1, (I i).2.1 + k + 1, (J i).2.2)))]
              rw [← longC_set]; rfl
            · simp only [updJ, if_true]; exact p3
            · simp only [updJ, if_true]; omega
          · conv => whnf
            refine .mk gl rfl (by omega) (by omega) ?_
            conv => whnf
            refine .row 0 35 1 gl m m _ _ i rfl (by rw [Int.toNat_natCast, Nat.mul_one]) (over_one _ _ _ (by rw [longC_len]; exact hi')) ?_
            conv => whnf
            refine .ok (by omega) (by omega) ?_
            conv => whnf
            refine .pub 2 3 1 (some g1) ((I i).2.1 + k) (J i).2.2 _ rfl fun h4 hl4 hr4 hf4 => .pub 3 3 1 (some g2) ((I i).2.1 + k + 1) c2 _ rfl fun h5 hl5 hr5 hf5 => .done ?_
            have hr5 : RowAt h5 3 1 (some g2) ((I i).2.1 + k + 1) c2 ((marks i (I i).2.1 ++ tails i k).map iv ++ [iv ((0 - (i : Int)) * 1000003 - k - 1)]) := hr5
            rw [hval] at hr5
            obtain ⟨f3, p3⟩ := p.moved f hi' hl4 hr4 hl5 hr5 (hf5 g2 rfl)
            refine ⟨(k + 1, updJ X i _, updJ J i (some g2, (I i).2.1 + k + 1, c2)), rfl, ?_, ⟨f3, hk', ⟨?_, ?_⟩, oth _ _⟩, by show 16 - (k + 1) < 16 - k; omega⟩
            · show _ = [LE.row 35 1 (some gl) m m (longC m (updJ J i (some g2, (I i).2.1 + k + 1, c2)))]
              rw [← longC_set]; rfl
            · simp only [updJ, if_true]; exact p3
            · simp only [updJ, if_true]; omega
      · obtain rfl : k = 16 := by omega
        conv => whnf
        refine .ok (by omega) (by omega) ?_
        conv => whnf
        refine ⟨(i + 1, X, J), rfl, rfl, ⟨f, hi', fun q hq => ?_⟩, by show m - (i + 1) < m - i; omega⟩
        by_cases hqi : q = i
        · subst hqi; rw [if_pos (Nat.lt_succ_self q)]; exact ⟨p, hJ⟩
        · obtain ⟨a1, a2⟩ := hoth q hq hqi
          by_cases hlt : q < i
          · rw [if_pos hlt] at a1 a2; rw [if_pos (by omega)]; exact ⟨a1, a2⟩
          · rw [if_neg hlt] at a1 a2; rw [if_neg (by omega)]; exact ⟨a1, a2⟩
    · have hst3 : ∀ q, q < m → PairAt (X q) q (I q).2.1 16 (I q).1 (J q).1 (J q).2.2 ∧ (J q).2.1 = (I q).2.1 + 16 := fun q hq => by
        have := hst q hq
        rwa [if_pos (show q < i by omega)] at this
      conv => whnf
      refine .mk Nat [0, 3, 8] (fun i => [.v (.slice A0 m c0), .v (.slice (some gl) m m), .v (iv i)]) (fun _ => [.row 35 1 (some gl) m m (longC m J)]) (fun i h' => h' = h1 ∧ i ≤ m) (fun i => m - i) 0 (fun _ => rfl) ⟨rfl, Nat.zero_le _⟩ rfl rfl ?_
      rintro i e h1 ⟨rfl, hi⟩
      conv => whnf
      refine br_dec (fun u1 => ?_) (fun u1 => ?_)
      · have hi' : i < m := by omega
        have hni := hn i hi'
        obtain ⟨p, hJ⟩ := hst3 i hi'
        obtain ⟨g0, hg0⟩ := ht.ad (by omega)
        have hload : h1.cell? (g0.add (i * 1)) = some (.slice (I i).1 (I i).2.1 (I i).2.2) := (ht.mono f.le).one hg0 (map_range hi') rfl
        have hA := p.tab.mono (f.sub i hi')
        have hB := (p.row.mono (f.sub i hi')).one
        have hmk : ∀ k, k < (I i).2.1 → ((marks i (I i).2.1).map fun z => [iv z])[k]? = some [iv ((i : Int) * 1000003 + k)] := fun k hk => by simp [marks, hk]
        have hbk : ∀ k, k < (I i).2.1 → ((marks i (I i).2.1 ++ tails i 16).map fun z => [iv z])[k]? = some [iv ((i : Int) * 1000003 + k)] := fun k hk => by
          rw [List.getElem?_map, List.getElem?_append_left (by rw [marks_len]; exact hk), ← List.getElem?_map]; exact hmk k hk
        have htk : ∀ k, k < 16 → ((marks i (I i).2.1 ++ tails i 16).map fun z => [iv z])[(I i).2.1 + k]? = some [iv ((0 - (i : Int)) * 1000003 - k - 1)] := fun k hk => by
          rw [List.getElem?_map, List.getElem?_append_right (by rw [marks_len]; omega), marks_len, Nat.add_sub_cancel_left, ← List.getElem?_map]; simp [tails, hk]
        obtain ⟨gB, hgB⟩ := hB.ad (by omega)
        conv => whnf
        refine .mk Nat [0, 3, 8, 9] (fun k => [.v (.slice A0 m c0), .v (.slice (some gl) m m), .v (iv i), .v (iv k)]) (fun _ => [.row 35 1 (some gl) m m (longC m J)]) (fun k h' => h' = h1 ∧ k ≤ (I i).2.1) (fun k => (I i).2.1 - k) 0 (fun _ => rfl) ⟨rfl, Nat.zero_le _⟩ rfl rfl ?_
        rintro k e2 h1 ⟨rfl, hk⟩
        conv => whnf
        refine .mk g0 hg0 (by omega) (by omega) ?_
        conv => whnf
        refine .hp _ (by rw [Int.toNat_natCast]; exact hload) ?_
        conv => whnf
        refine br_dec (fun u2 => ?_) (fun u2 => ?_)
        · have hk' : k < (I i).2.1 := by omega
          obtain ⟨gA, hgA⟩ := hA.ad (by omega)
          conv => whnf
          refine .mk g0 hg0 (by omega) (by omega) ?_
          conv => whnf
          refine .hp _ (by rw [Int.toNat_natCast]; exact hload) ?_
          conv => whnf
          refine .mk gA hgA (by omega) (by omega) ?_
          conv => whnf
          refine .hp (iv ((i : Int) * 1000003 + k)) (by rw [Int.toNat_natCast]; exact hA.one hgA (hmk k hk') rfl) ?_
          conv => whnf
          refine .ok (by omega) (by omega) ?_
          conv => whnf
          refine .ok (by omega) (by omega) ?_
          conv => whnf
          refine br_dec (fun q => (q rfl).elim) (fun _ => ?_)
          conv => whnf
          refine .mk gl rfl (by omega) (by omega) ?_
          conv => whnf
          refine .row 0 35 1 gl m m _ i _ rfl (by rw [Int.toNat_natCast, Nat.mul_one]) (longC_at hi') ?_
          conv => whnf
          refine .mk gB hgB (by omega) (by omega) ?_
          conv => whnf
          refine .hp (iv ((i : Int) * 1000003 + k)) (by rw [Int.toNat_natCast]; exact hB.one hgB (hbk k hk') rfl) ?_
          conv => whnf
          refine .ok (by omega) (by omega) ?_
          conv => whnf
          refine .ok (by omega) (by omega) ?_
          conv => whnf
          refine br_dec (fun q => (q rfl).elim) (fun _ => ?_)
          conv => whnf
          refine .ok (by omega) (by omega) ?_
          conv => whnf
          exact ⟨k + 1, rfl, rfl, ⟨rfl, hk'⟩, by omega⟩
        · conv => whnf
          refine .mk Nat [0, 3, 8, 10] (fun k => [.v (.slice A0 m c0), .v (.slice (some gl) m m), .v (iv i), .v (iv k)]) (fun _ => [.row 35 1 (some gl) m m (longC m J)]) (fun k h' => h' = h1 ∧ k ≤ 16) (fun k => 16 - k) 0 (fun _ => rfl) ⟨rfl, Nat.zero_le _⟩ rfl rfl ?_
          rintro k e3 h1 ⟨rfl, hk⟩
          conv => whnf
          refine br_dec (fun u3 => ?_) (fun u3 => ?_)
          · have hk' : k < 16 := by omega
            conv => whnf
            refine .mk gl rfl (by omega) (by omega) ?_
            conv => whnf
            refine .row 0 35 1 gl m m _ i _ rfl (by rw [Int.toNat_natCast, Nat.mul_one]) (longC_at hi') ?_
            conv => whnf
            refine .mk g0 hg0 (by omega) (by omega) ?_
            conv => whnf
            refine .hp _ (by rw [Int.toNat_natCast]; exact hload) ?_
            conv => whnf
            refine .ok (by omega) (by omega) ?_
            conv => whnf
            refine .mk gB hgB (by omega) (by omega) ?_
            conv => whnf
            refine .hp (iv ((0 - (i : Int)) * 1000003 - k - 1)) (by rw [show (((I i).2.1 : Int) + k).toNat = (I i).2.1 + k by omega]; exact hB.one hgB (htk k hk') rfl) ?_
            conv => whnf
            refine .ok (by omega) (by omega) ?_
            conv => whnf
            refine .ok (by omega) (by omega) ?_
            conv => whnf
            refine .ok (by omega) (by omega) ?_
            conv => whnf
            refine .ok (by omega) (by omega) ?_
            conv => whnf
            refine br_dec (fun q => (q rfl).elim) (fun _ => ?_)
            conv => whnf
            refine .ok (by omega) (by omega) ?_
            conv => whnf
            exact ⟨k + 1, rfl, rfl, ⟨rfl, hk'⟩, by omega⟩
          · conv => whnf
            refine .ok (by omega) (by omega) ?_
            conv => whnf
            exact ⟨i + 1, rfl, rfl, ⟨rfl, hi'⟩, by omega⟩
      · conv => whnf
        exact .done ⟨rfl, f.le⟩
end Go.Sx
