/- Layer 18: lists that share no memory: the families that Apart goes through. Conditions: none. -/
import Derived.Test.YtfdcoiiaiihdnaaN18S
namespace Go.Sx
open Go.Proofs
def Hp.minus (h X : Hp) : Hp := fun j => match X j with
  | none => h j
  | some _ => none
theorem Hp.minus_of {h X : Hp} {j : Nat} (hx : X j = none) : h.minus X j = h j := by unfold Hp.minus; rw [hx]
theorem Hp.minus_in {h X : Hp} {j : Nat} (hx : X j ≠ none) : h.minus X j = none := by
  unfold Hp.minus
  cases e : X j with
  | none => exact absurd e hx
  | some o => rfl
theorem Hp.minus_some {h X : Hp} {j : Nat} {o : Obj} (e : h.minus X j = some o) : X j = none ∧ h j = some o := by
  unfold Hp.minus at e
  cases hx : X j with
  | none => rw [hx] at e; exact ⟨rfl, e⟩
  | some o' => rw [hx] at e; cases e
/-- m parts of a partial heap, apart from one another and from the rest B -/
structure FamA (B h : Hp) (m : Nat) (X : Nat → Hp) : Prop where
  le : B.le h
  sub : ∀ i, i < m → (X i).le h
  dB : ∀ i, i < m → ∀ j, X i j ≠ none → B j = none
  dX : ∀ i k, i < m → k < m → i ≠ k → ∀ j, X i j ≠ none → X k j = none
theorem FamA.upd {B h h' X' : Hp} {m i : Nat} {X : Nat → Hp} (f : FamA B h m X) (hi : i < m) (hle : (h.minus (X i)).le h') (hX : X'.le h') (hd : ∀ j, X' j ≠ none → h.minus (X i) j = none) : FamA B h' m (updJ X i X') := by
  have old : ∀ k, k < m → k ≠ i → ∀ j o, X k j = some o → h.minus (X i) j = some o := fun k hk hne j o e => by
    rw [Hp.minus_of (f.dX k i hk hi hne j (by rw [e]; simp))]
    exact f.sub k hk j o e
  refine ⟨fun j o e => hle j o ?_, fun k hk => ?_, fun k hk j hj => ?_, fun a b ha hb hab j hj => ?_⟩
  · rw [Hp.minus_of (by
      cases q : X i j with
      | none => rfl
      | some o' => rw [f.dB i hi j (by rw [q]; simp)] at e; cases e)]
    exact f.le j o e
  · by_cases e : k = i
    · subst e; simp only [updJ, if_true]; exact hX
    · simp only [updJ, if_neg e]; exact fun j o ej => hle j o (old k hk e j o ej)
  · by_cases e : k = i
    · subst e
      simp only [updJ, if_true] at hj
      have := hd j hj
      cases q : B j with
      | none => rfl
      | some o =>
        rw [Hp.minus_of (by
          cases q2 : X k j with
          | none => rfl
          | some o' => rw [f.dB k hk j (by rw [q2]; simp)] at q; cases q), f.le j o q] at this
        cases this
    · simp only [updJ, if_neg e] at hj; exact f.dB k hk j hj
  · by_cases e1 : a = i
    · subst e1
      have hb' : b ≠ a := fun q => hab q.symm
      simp only [updJ, if_true] at hj
      simp only [updJ, if_neg hb']
      have := hd j hj
      cases q : X b j with
      | none => rfl
      | some o => rw [old b hb hb' j o q] at this; cases this
    · simp only [updJ, if_neg e1] at hj
      by_cases e2 : b = i
      · subst e2
        simp only [updJ, if_true]
        cases q : X' j with
        | none => rfl
        | some o =>
          have := hd j (by rw [q]; simp)
          cases q3 : X a j with
          | none => exact absurd q3 hj
          | some o' => rw [old a ha e1 j o' q3] at this; cases this
      · simp only [updJ, if_neg e2]; exact f.dX a b ha hb hab j hj
theorem Tab.at_ {h h' : Hp} {size n : Nat} {A : Option Addr} {rows : List (List Value)} (t : Tab h size A n rows) (e : ∀ g, A = some g → h g.block = h' g.block) : Tab h' size A n rows := by
  refine ⟨t.len, t.wid, t.ad, fun g hg i r hr j v hv => ?_⟩
  have := t.cell g hg i r hr j v hv
  have he := e g hg
  unfold Hp.cell? at this ⊢
  have hb : (g.add (i * size + j)).block = g.block := by unfold Addr.add; split <;> rfl
  rw [hb] at this ⊢
  rw [← he]; exact this
theorem Tab.mem {h : Hp} {n : Nat} {g : Addr} {l : List Int} (t : Tab h 1 (some g) n (l.map fun z => [iv z])) (hn : n ≠ 0) : h g.block ≠ none := by
  have hl : l.length = n := by simpa using t.len
  obtain ⟨z, hz⟩ : ∃ z, l[0]? = some z := ⟨_, List.getElem?_eq_getElem (by omega)⟩
  have := t.one rfl (i := 0) (r := [iv z]) (by rw [List.getElem?_map, hz]; rfl) rfl
  intro hb
  have hbk : (g.add (0 * 1)).block = g.block := by unfold Addr.add; split <;> rfl
  unfold Hp.cell? at this
  rw [hbk, hb] at this
  simp at this
theorem Tab.empty' (h : Hp) (A : Option Addr) : Tab h 1 A 0 (([] : List Int).map fun z => [iv z]) := ⟨rfl, (fun r hr => by cases hr), (fun q => absurd rfl q), fun g _ i r hr => by simp at hr⟩
def marks (i n : Nat) : List Int := (List.range n).map fun (k : Nat) => (i : Int) * 1000003 + k
def tails (i k : Nat) : List Int := (List.range k).map fun (q : Nat) => (0 - (i : Int)) * 1000003 - q - 1
theorem marks_len (i n : Nat) : (marks i n).length = n := by simp [marks]
theorem tails_len (i k : Nat) : (tails i k).length = k := by simp [tails]
theorem tails_add (i k : Nat) : tails i (k + 1) = tails i k ++ [(0 - (i : Int)) * 1000003 - k - 1] := by simp [tails, List.range_succ]
/-- a list (A, n) with its marks, and one grown out of it by k -/
structure PairAt (X : Hp) (i n k : Nat) (A A' : Option Addr) (c' : Nat) : Prop where
  row : RowAt X 3 1 A' (n + k) c' ((marks i n ++ tails i k).map iv)
  two : A' = A ∨ (Tab X 1 A n ((marks i n).map fun z => [iv z]) ∧ (n = 0 ∨ ∀ g g', A = some g → A' = some g' → g.block ≠ g'.block))
theorem PairAt.tab {X : Hp} {i n k c' : Nat} {A A' : Option Addr} (p : PairAt X i n k A A' c') : Tab X 1 A n ((marks i n).map fun z => [iv z]) := by
  rcases p.two with rfl | h
  · have := p.row.one.take (k := n) (by omega)
    rwa [List.map_append, List.take_left' (by simp [marks_len])] at this
  · exact h.1
theorem PairAt.zero {X : Hp} {i n c : Nat} {A : Option Addr} (r : RowAt X 3 1 A n c ((marks i n).map iv)) : PairAt X i n 0 A A c := ⟨by simpa [tails] using r, .inl rfl⟩
/-- the blocks of a pair -/
def pairS (n : Nat) (A : Option Addr) (g' : Addr) : Nat → Prop := fun j => j = g'.block ∨ (n ≠ 0 ∧ ∃ g, A = some g ∧ j = g.block)
theorem PairAt.inplace {B h h2 : Hp} {m i n k c' : Nat} {A : Option Addr} {g' : Addr} {X : Nat → Hp} (f : FamA B h m X) (hi : i < m) (p : PairAt (X i) i n k A (some g') c') (hle : (delA h (some g')).le h2) (hr : RowAt h2 3 1 (some g') (n + (k + 1)) c' ((marks i n ++ tails i (k + 1)).map iv)) :
    FamA B h2 m (updJ X i (h2.on (pairS n A g'))) ∧ PairAt (h2.on (pairS n A g')) i n (k + 1) A (some g') c' := by
  have hg' := p.row.mem rfl
  refine ⟨f.upd hi (fun j o e => ?_) (Hp.on_le _ _) (fun j hj => ?_), ?_⟩
  · obtain ⟨e1, e2⟩ := Hp.minus_some e
    exact hle j o (by rw [delA, Hp.del_ne _ (fun q => hg' (by rw [← q]; exact e1))]; exact e2)
  · rcases Hp.on_ne hj with rfl | ⟨hn, g, rfl, rfl⟩
    · exact Hp.minus_in hg'
    · exact Hp.minus_in (p.tab.mem hn)
  · refine ⟨hr.on fun q e => by injection e with e; subst e; exact .inl rfl, ?_⟩
    rcases p.two with q | ⟨q1, q2⟩
    · exact .inl q
    · refine .inr ⟨?_, q2⟩
      by_cases hn : n = 0
      · subst hn; exact Tab.empty' _ _
      · rcases q2 with q2 | q2
        · exact absurd q2 hn
        · refine q1.at_ fun g hg => ?_
          subst hg
          rw [Hp.on_of (.inr ⟨hn, g, rfl, rfl⟩)]
          have hne := q2 g g' rfl rfl
          cases e : X i g.block with
          | none => exact absurd e (q1.mem hn)
          | some o => exact (hle _ _ (by rw [delA, Hp.del_ne _ hne]; exact f.sub i hi _ _ e)).symm
theorem PairAt.moved {B h h1 h2 : Hp} {m i n k c' c2 : Nat} {A A' : Option Addr} {g2 : Addr} {X : Nat → Hp} (f : FamA B h m X) (hi : i < m) (p : PairAt (X i) i n k A A' c') (hle : (delA h A').le h1) (ho : RowAt h1 3 1 A' (n + k) c' ((marks i n ++ tails i k).map iv)) (hle2 : h1.le h2)
    (hr : RowAt h2 3 1 (some g2) (n + (k + 1)) c2 ((marks i n ++ tails i (k + 1)).map iv)) (hf : h1 g2.block = none) :
    FamA B h2 m (updJ X i (h2.on (pairS n A g2))) ∧ PairAt (h2.on (pairS n A g2)) i n (k + 1) A (some g2) c2 := by
  have hmin : (h.minus (X i)).le h1 := fun j o e => by
    obtain ⟨e1, e2⟩ := Hp.minus_some e
    cases A' with
    | none => exact hle j o e2
    | some g' => exact hle j o (by rw [delA, Hp.del_ne _ (fun q => p.row.mem rfl (by rw [← q]; exact e1))]; exact e2)
  refine ⟨f.upd hi (fun j o e => hle2 j o (hmin j o e)) (Hp.on_le _ _) (fun j hj => ?_), ?_⟩
  · rcases Hp.on_ne hj with rfl | ⟨hn, g, rfl, rfl⟩
    · exact le_none hmin hf
    · exact Hp.minus_in (p.tab.mem hn)
  · refine ⟨hr.on fun q e => by injection e with e; subst e; exact .inl rfl, .inr ?_⟩
    by_cases hn : n = 0
    · subst hn; exact ⟨Tab.empty' _ _, .inl rfl⟩
    · have ht : Tab h1 1 A n ((marks i n).map fun z => [iv z]) := by
        rcases p.two with q | ⟨q1, q2⟩
        · subst q
          have := ho.one.take (k := n) (by omega)
          rwa [List.map_append, List.take_left' (by simp [marks_len])] at this
        · rcases q2 with q2 | q2
          · exact absurd q2 hn
          · refine q1.at_ fun g hg => ?_
            subst hg
            cases e : X i g.block with
            | none => exact absurd e (q1.mem hn)
            | some o =>
              refine (hle _ _ ?_).symm
              cases A' with
              | none => exact f.sub i hi _ _ e
              | some g' => rw [delA, Hp.del_ne _ (q2 g g' rfl rfl)]; exact f.sub i hi _ _ e
      refine ⟨(ht.mono hle2).at_ fun g hg => ?_, .inr fun g g' e1 e2 q => ?_⟩
      · rw [Hp.on_of (.inr ⟨hn, g, hg, rfl⟩)]
      · injection e2 with e2; subst e2; subst e1
        exact ht.mem hn (by rw [q]; exact hf)
end Go.Sx
