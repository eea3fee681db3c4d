/- Layer 19: the three step functions. Conditions: none. -/
import Derived.Test.YthibgmkobcbhhaaGreatN19G
namespace Go.Sx
open Go.Proofs
set_option maxRecDepth 100000
open Classical in
/-- the part of a partial heap on some blocks -/
noncomputable def Hp.on (h : Hp) (S : Nat → Prop) : Hp := fun j => if S j then h j else none
theorem Hp.on_le (h : Hp) (S : Nat → Prop) : (h.on S).le h := fun j o e => by
  unfold Hp.on at e; split at e
  · exact e
  · cases e
theorem Hp.on_of {h : Hp} {S : Nat → Prop} {j : Nat} (hj : S j) : h.on S j = h j := by unfold Hp.on; rw [if_pos hj]
theorem Hp.on_ne {h : Hp} {S : Nat → Prop} {j : Nat} (hj : h.on S j ≠ none) : S j := by
  unfold Hp.on at hj; split at hj
  · assumption
  · exact absurd rfl hj
theorem RowAt.on {h : Hp} {ety size n cap : Nat} {A : Option Addr} {xs : List Value} {S : Nat → Prop} (x : RowAt h ety size A n cap xs) (hS : ∀ g, A = some g → S g.block) : RowAt (h.on S) ety size A n cap xs := by
  obtain ⟨h1, h2⟩ := x
  refine ⟨h1, ?_⟩
  rcases h2 with h2 | ⟨b, cur, e1, e2, e3⟩
  · exact .inl h2
  · exact .inr ⟨b, cur, e1, by rw [Hp.on_of (hS _ e1)]; exact e2, e3⟩
theorem RowAt.one {n : Nat} {h : Hp} {A : Option Addr} {cap : Nat} {l : List Int} (x : RowAt h 3 1 A n cap (l.map iv)) : Tab h 1 A n (l.map fun z => [iv z]) := by
  rw [← flat_nums] at x; exact x.tab (ints_wid _) (by decide)
def rowCells (n : Nat) (J : Nat → Addr × Nat) (k : Nat) : List Value := (List.range k).map fun i => .slice (some (J i).1) n (J i).2
theorem rowCells_len (n : Nat) (J : Nat → Addr × Nat) (k : Nat) : (rowCells n J k).length = k := by simp [rowCells]
/-- A list of rows of numbers in memory of its own. -/
structure RowsAt (X : Hp) (n : Nat) (rows : List (List Int)) (A : Option Addr) (c : Nat) (J : Nat → Addr × Nat) : Prop where
  outer : RowAt X 25 1 A rows.length c (rowCells n J rows.length)
  inner : ∀ i (hi : i < rows.length), RowAt X 3 1 (some (J i).1) n (J i).2 (rows[i].map iv)
  apart : ∀ i j, i < rows.length → j < rows.length → i ≠ j → (J i).1.block ≠ (J j).1.block
  own : ∀ i, i < rows.length → ∀ g, A = some g → g.block ≠ (J i).1.block
def RAlong (n : Nat) (rows : List (List Int)) (v : Value) (X : Hp) : Prop := ∃ A c J, v = .slice A rows.length c ∧ RowsAt X n rows A c J
theorem rAlong_nil (n : Nat) : RAlong n [] (.slice none 0 0) Hp.empty :=
  ⟨none, 0, fun _ => (⟨0, 0, none⟩, 0), rfl, ⟨rfl, .inl ⟨rfl, rfl, rfl⟩⟩, (fun i hi => by simp at hi), (fun i j hi => by simp at hi), fun i hi => by simp at hi⟩
theorem next30 {n M : Nat} (hM : M ≤ 4096) : NextOk 72 (RAlong n) M n := by
  rintro rows v X h g c toks hlen ⟨A, cA, J, rfl, hX⟩ hle hXg hrow htl
  refine Fn.intro (args := [.slice A rows.length cA, .slice (some g) n c]) mix14 Tryz.func72 rfl (by decide) Tryz.ntmps72 rfl (low72 rfl) rfl ?_
  conv => whnf
  refine .abs 25 1 A rows.length cA _ (hX.outer.mono hle) (.done (.old 1 _ [.slice (some g) n c] rfl rfl (by simp; rfl) (by simp [maxLen]; omega) (by omega) fun A2 c2 hA2 => ?_))
  conv => whnf
  refine .pub 1 25 1 A2 (rows.length + 1) c2 _ rfl fun h' hle2 hr2 hf2 => .done ?_
  obtain ⟨g2, rfl⟩ : ∃ g2, A2 = some g2 := by
    cases A2 with
    | none => have := hA2.1.1 rfl; omega
    | some g2 => exact ⟨g2, rfl⟩
  have hdel : ∀ j o, X j = some o → (∀ g, A = some g → g.block ≠ j) → h' j = some o := fun j o e hne => by
    refine hle2 j o ?_
    cases A with
    | none => exact hle j o e
    | some gA => rw [delA, Hp.del_ne _ (fun q => hne gA rfl q.symm)]; exact hle j o e
  have hgA : ∀ gA, A = some gA → gA.block ≠ g.block := fun gA e q => hX.outer.mem e (by rw [q]; exact hXg)
  have hrow' : RowAt h' 3 1 (some g) n c (toks.map iv) := (hrow.del fun g1 g2 e1 e2 => by injection e1 with e1; subst e1; exact (hgA g2 e2).symm).mono hle2
  have hK : ∀ K : Hp, K.le h → Disj K X → K.le (delA h A) := fun K hk hd j o e => by
    cases A with
    | none => exact hk j o e
    | some gA => rw [delA, Hp.del_ne _ (fun q => by subst q; rw [hd _ (hX.outer.mem rfl)] at e; cases e)]; exact hk j o e
  have hg2 : ∀ i (hi : i < rows.length), g2.block ≠ (J i).1.block := fun i hi q => by
    have h1 := hf2 g2 rfl
    have h2 := (((hX.inner i hi).mono hle).del (B := A) fun g1 g3 e1 e2 => by injection e1 with e1; subst e1; exact (hX.own i hi g3 e2).symm).mem rfl
    rw [← q] at h2; exact h2 h1
  have hg2' : g2.block ≠ g.block := fun q => by
    have h1 := hf2 g2 rfl
    have h2 := (hrow.del (B := A) fun g1 g3 e1 e2 => by injection e1 with e1; subst e1; exact (hgA g3 e2).symm).mem rfl
    rw [← q] at h2; exact h2 h1
  have hXJ : ∀ i (hi : i < rows.length), (J i).1.block ≠ g.block := fun i hi q => (hX.inner i hi).mem rfl (by rw [q]; exact hXg)
  let J' : Nat → Addr × Nat := fun i => if i = rows.length then (g, c) else J i
  have hJ1 : J' rows.length = (g, c) := by simp [J']
  have hJ2 : ∀ i, i < rows.length → J' i = J i := fun i hi => by simp only [J']; rw [if_neg (by omega)]
  let S : Nat → Prop := fun j => j = g2.block ∨ j = g.block ∨ ∃ i, i < rows.length ∧ j = (J i).1.block
  have hcells : rowCells n J rows.length ++ [.slice (some g) n c] = rowCells n J' (rows.length + 1) := by
    simp only [rowCells, List.range_succ, List.map_append, List.map_cons, List.map_nil, hJ1]
    congr 1
    exact List.map_congr_left fun i hi => by rw [hJ2 i (List.mem_range.1 hi)]
  refine ⟨h'.on S, ⟨some g2, c2, J', by simp [oneVal], ?_, fun i hi => ?_, fun i j hi hj hij => ?_, fun i hi gq e => ?_⟩, Hp.on_le _ _, fun K hk hd hkg => ⟨Hp.le_trans (hK K hk hd) hle2, fun j hj => ?_⟩⟩
  · have hr2 : RowAt h' 25 1 (some g2) (rows.length + 1) c2 (rowCells n J rows.length ++ [.slice (some g) n c]) := hr2
    rw [hcells] at hr2
    simpa using hr2.on (S := S) fun q e => by injection e with e; subst e; exact .inl rfl
  · by_cases e : i = rows.length
    · subst e
      rw [hJ1]
      simpa using hrow'.on (S := S) fun q e => by injection e with e; subst e; exact .inr (.inl rfl)
    · have hi' : i < rows.length := by simp at hi; omega
      rw [hJ2 i hi', List.getElem_append_left hi']
      have hb := ((((hX.inner i hi').mono hle).del (B := A) fun g1 g3 e1 e2 => by injection e1 with e1; subst e1; exact (hX.own i hi' g3 e2).symm)).mono hle2
      exact hb.on fun q e => by injection e with e; subst e; exact .inr (.inr ⟨i, hi', rfl⟩)
  · have h1 : i < rows.length + 1 := by simpa using hi
    have h2 : j < rows.length + 1 := by simpa using hj
    by_cases e1 : i = rows.length
    · have e2 : j < rows.length := by omega
      rw [e1, hJ1, hJ2 j e2]; exact (hXJ j e2).symm
    · have e1' : i < rows.length := by omega
      by_cases e2 : j = rows.length
      · rw [e2, hJ1, hJ2 i e1']; exact hXJ i e1'
      · rw [hJ2 i e1', hJ2 j (by omega)]; exact hX.apart i j e1' (by omega) hij
  · injection e with e; subst e
    have h1 : i < rows.length + 1 := by simpa using hi
    by_cases e1 : i = rows.length
    · rw [e1, hJ1]; exact hg2'
    · rw [hJ2 i (by omega)]; exact hg2 i (by omega)
  · rcases Hp.on_ne hj with rfl | rfl | ⟨i, hi, rfl⟩
    · exact le_none (hK K hk hd) (hf2 g2 rfl)
    · exact hkg
    · exact hd _ ((hX.inner i hi).mem rfl)
end Go.Sx
namespace Go.Sx
open Go.Proofs
set_option maxRecDepth 100000
def maxes : List (List Int) → List Int
  | [] => []
  | r :: rs => rs.foldl (fun a b => List.zipWith max a b) r
theorem maxes_add {rows : List (List Int)} (h : rows ≠ []) (t : List Int) : maxes (rows ++ [t]) = List.zipWith max (maxes rows) t := by
  cases rows with
  | nil => exact absurd rfl h
  | cons r rs => simp [maxes]
def RMost (n : Nat) (rows : List (List Int)) (v : Value) (X : Hp) : Prop :=
  (rows = [] → v = .slice none 0 0) ∧ (rows ≠ [] → ∃ g c, v = .slice (some g) n c ∧ RowAt X 3 1 (some g) n c ((maxes rows).map iv))
theorem rMost_nil (n : Nat) : RMost n [] (.slice none 0 0) Hp.empty := ⟨fun _ => rfl, fun h => absurd rfl h⟩
def mixL (a b : List Int) (k : Nat) : List Int := (List.zipWith max a b).take k ++ a.drop k
theorem mixL_zero (a b : List Int) : mixL a b 0 = a := by simp [mixL]
theorem mixL_all {a b : List Int} {n : Nat} (ha : a.length = n) (hb : b.length = n) : mixL a b n = List.zipWith max a b := by
  unfold mixL
  rw [List.drop_eq_nil_of_le (by omega), List.append_nil, List.take_of_length_le (by simp; omega)]
theorem mixL_len {a b : List Int} {n k : Nat} (ha : a.length = n) (hb : b.length = n) (hk : k ≤ n) : (mixL a b k).length = n := by
  simp [mixL]; omega
theorem mixL_at {a b : List Int} {n k : Nat} (ha : a.length = n) (hb : b.length = n) (hk : k < n) : (mixL a b k)[k]? = some a[k] := by
  unfold mixL
  rw [List.getElem?_append_right (by simp; omega)]
  simp; rw [show k - min k (min a.length b.length) = 0 by omega]; simp
theorem mixL_step {a b : List Int} {n k : Nat} (ha : a.length = n) (hb : b.length = n) (hk : k < n) : (mixL a b k).set k (max a[k] b[k]) = mixL a b (k + 1) := by
  unfold mixL
  have hl : ((List.zipWith max a b).take k).length = k := by simp; omega
  rw [List.set_append_right _ _ (by omega), hl, Nat.sub_self, List.drop_eq_getElem_cons (by omega), List.set_cons_zero, take_succ' (by simp; omega), List.getElem_zipWith]
  simp
theorem next38 {n M : Nat} (hn : n ≤ 4096) : NextOk 53 (RMost n) M n := by
  rintro rows v X h g c toks hlen ⟨hX1, hX2⟩ hle hXg hrow htl
  by_cases hr : rows = []
  · subst hr
    obtain rfl := hX1 rfl
    refine Fn.intro (args := [.slice none 0 0, .slice (some g) n c]) mix14 Tryz.func53 rfl (by decide) Tryz.ntmps53 rfl (low53 rfl) rfl ?_
    conv => whnf
    refine .done ⟨h.on fun j => j = g.block, ⟨fun e => by simp at e, fun _ => ⟨g, c, rfl, ?_⟩⟩, Hp.on_le _ _, fun K hk hd hkg => ⟨hk, fun j hj => ?_⟩⟩
    · exact hrow.on fun q e => by injection e with e; subst e; rfl
    · rw [Hp.on_ne hj]; exact hkg
  · obtain ⟨ga, ca, rfl, hA⟩ := hX2 hr
    have hal : (maxes rows).length = n := by have := hA.1; simpa using this
    have hne : ga.block ≠ g.block := fun q => hA.mem rfl (by rw [q]; exact hXg)
    obtain ⟨gb, rfl⟩ : ∃ gb, ga = ⟨gb, 0, none⟩ := by
      rcases hA.2 with ⟨q, _⟩ | ⟨b, _, q, _⟩
      · cases q
      · injection q with q; exact ⟨b, q⟩
    have htab := (hrow.del (B := some ⟨gb, 0, none⟩) fun g1 g2 e1 e2 => by injection e1 with e1; injection e2 with e2; subst e1; subst e2; exact hne.symm).one
    have hgt := htab.ad
    refine Fn.intro (args := [.slice (some ⟨gb, 0, none⟩) n ca, .slice (some g) n c]) mix14 Tryz.func53 rfl (by decide) Tryz.ntmps53 rfl (low53 rfl) rfl ?_
    conv => whnf
    refine .mk Nat [0, 10, 11, 12] (fun k => [.v (.slice (some ⟨gb, 0, none⟩) n ca), .v (.slice (some g) n c), .v (iv n), .v (iv k)]) (fun _ => [])
      (fun k h' => k ≤ n ∧ (h.del gb).le h' ∧ RowAt h' 3 1 (some ⟨gb, 0, none⟩) n ca ((mixL (maxes rows) toks k).map iv)) (fun k => n - k) 0 (fun _ => rfl) ⟨Nat.zero_le _, Hp.del_le _ _, by rw [mixL_zero]; exact hA.mono hle⟩ rfl rfl ?_
    rintro k e h' ⟨hk, hd, hro⟩
    conv => whnf
    refine br_dec (fun h1 => ?_) (fun h1 => ?_)
    · have hk' : k < n := by omega
      conv => whnf
      refine .mk g rfl (by omega) (by omega) ?_
      conv => whnf
      refine .hp (iv toks[k]) (by rw [Int.toNat_natCast]; exact (htab.mono hd).one rfl (r := [iv toks[k]]) (by simp [htl, hk']) rfl) ?_
      conv => whnf
      refine .mk ⟨gb, 0, none⟩ rfl (by omega) (by omega) ?_
      conv => whnf
      refine .hp (iv ((maxes rows)[k]'(by omega))) (by rw [Int.toNat_natCast]; exact hro.one.one rfl (r := [iv ((maxes rows)[k]'(by omega))]) (by simp [mixL_at hal htl hk']) rfl) ?_
      conv => whnf
      refine .mk ⟨gb, 0, none⟩ rfl (by omega) (by omega) ?_
      conv => whnf
      obtain ⟨g3, cs, cs', e1, e2, e3, e4⟩ := hro.write (off := k) (by omega) (iv (max ((maxes rows)[k]'(by omega)) (toks[k]'(by omega))))
      injection e1 with e1
      injection e1 with e1
      subst e1
      refine .hp gb k 3 cs cs' (by rw [Int.toNat_natCast, add_lit, Nat.mul_one, Nat.zero_add]) e2 e3 ?_
      conv => whnf
      refine .ok (by omega) (by omega) ?_
      conv => whnf
      refine ⟨k + 1, rfl, rfl, ⟨hk', fun j o q => ?_, ?_⟩, by omega⟩
      · rw [Hp.put_ne _ _ (fun w => by subst w; rw [Hp.del_same] at q; cases q)]; exact hd j o q
      · rw [← mixL_step hal htl hk', List.map_set]; exact e4
    · have : k = n := by omega
      subst this
      rw [mixL_all hal htl, ← maxes_add hr] at hro
      conv => whnf
      refine .done ⟨h'.on fun j => j = gb, ⟨fun e => by simp at e, fun _ => ⟨⟨gb, 0, none⟩, ca, rfl, ?_⟩⟩, Hp.on_le _ _, fun K hk hdj hkg => ?_⟩
      · exact hro.on fun q e => by injection e with e; subst e; rfl
      · have hkb : K gb = none := hdj gb (hA.mem rfl)
        refine ⟨fun j o q => hd j o ?_, fun j hj => by rw [Hp.on_ne hj]; exact hkb⟩
        rw [Hp.del_ne _ (fun w => by subst w; rw [hkb] at q; cases q)]
        exact hk j o q
def RHome (n : Nat) (rows : List (List Int)) (v : Value) (X : Hp) : Prop :=
  (rows = [] → v = .agg #[.slice none 0 0, .slice none 0 0]) ∧ (rows ≠ [] → ∃ ga ca gb cb, v = .agg #[.slice (some ga) n ca, .slice (some gb) n cb] ∧ RowAt X 3 1 (some ga) n ca ((rows.headD []).map iv) ∧ RowAt X 3 1 (some gb) n cb ((rows.getLastD []).map iv))
theorem rHome_nil (n : Nat) : RHome n [] (.agg #[.slice none 0 0, .slice none 0 0]) Hp.empty := ⟨fun _ => rfl, fun h => absurd rfl h⟩
theorem rHome_shape (n : Nat) (rows : List (List Int)) (v : Value) (X : Hp) (h : RHome n rows v X) : ∃ x y : Option Addr × Nat × Nat, v = .agg #[.slice x.1 x.2.1 x.2.2, .slice y.1 y.2.1 y.2.2] := by
  by_cases hr : rows = []
  · exact ⟨(none, 0, 0), (none, 0, 0), h.1 hr⟩
  · obtain ⟨ga, ca, gb, cb, e, _⟩ := h.2 hr
    exact ⟨(some ga, n, ca), (some gb, n, cb), e⟩
set_option maxRecDepth 100000 in
theorem next40 {n M : Nat} : NextOkM 50 (RHome n) M n := by
  rintro rows v X h g c toks hlen ⟨hX1, hX2⟩ hle hXg hrow htl
  have hlast : (rows ++ [toks]).getLastD [] = toks := by simp
  by_cases hr : rows = []
  · subst hr
    obtain rfl := hX1 rfl
    refine Fn.intro (args := [.agg #[.slice none 0 0, .slice none 0 0], .slice (some g) n c]) mix14 Tryz.func50 rfl (by decide) Tryz.ntmps50 rfl (low50 rfl) rfl ?_
    conv => whnf
    have hro : RowAt (h.on fun j => j = g.block) 3 1 (some g) n c (toks.map iv) := hrow.on fun q e => by injection e with e; subst e; rfl
    refine .done ⟨Hp.le_refl _, h.on fun j => j = g.block, ⟨fun e => by simp at e, fun _ => ⟨g, c, g, c, rfl, hro, hro⟩⟩, Hp.on_le _ _, fun K hk hd hkg => ⟨hk, fun j hj => ?_⟩⟩
    · rw [Hp.on_ne hj]; exact hkg
  · obtain ⟨ga, ca, gb, cb, rfl, hA, hB⟩ := hX2 hr
    have hhead : (rows ++ [toks]).headD [] = rows.headD [] := by cases rows with
      | nil => exact absurd rfl hr
      | cons => rfl
    refine Fn.intro (args := [.agg #[.slice (some ga) n ca, .slice (some gb) n cb], .slice (some g) n c]) mix14 Tryz.func50 rfl (by decide) Tryz.ntmps50 rfl (low50 rfl) rfl ?_
    conv => whnf
    refine .done ⟨Hp.le_refl _, h.on fun j => j = g.block ∨ j = ga.block, ⟨fun e => by simp at e, fun _ => ⟨ga, ca, g, c, rfl, ?_, ?_⟩⟩, Hp.on_le _ _, fun K hk hd hkg => ⟨hk, fun j hj => ?_⟩⟩
    · rw [hhead]; exact (hA.mono hle).on fun q e => by injection e with e; subst e; exact .inr rfl
    · rw [hlast]; exact hrow.on fun q e => by injection e with e; subst e; exact .inl rfl
    · rcases Hp.on_ne hj with rfl | rfl
      · exact hkg
      · exact hd _ (hA.mem rfl)
end Go.Sx
namespace Go.Sx
open Go.Proofs
set_option maxRecDepth 100000
theorem take_eq_step {a b : List Int} {k : Nat} (h : a.take k = b.take k) (ha : k < a.length) (hb : k < b.length) : (a.take (k + 1) = b.take (k + 1)) ↔ a[k] = b[k] := by
  rw [take_succ' ha, take_succ' hb, h]
  exact ⟨fun e => by have := List.append_cancel_left e; simpa using this, fun e => by rw [e]⟩
theorem same21 (A B : Option Addr) (n m ca cb : Nat) (a b : List Int) (h : Hp) (hA : Tab h 1 A n (a.map fun z => [iv z])) (hB : Tab h 1 B m (b.map fun z => [iv z])) (hn : n ≤ 9223372036854775806) :
    Fn Tryz.prog 35 #[.slice A n ca, .slice B m cb] h fun r h' => r = .bool (decide (a = b)) ∧ h' = h := by
  have hal : a.length = n := by simpa using hA.len
  have hbl : b.length = m := by simpa using hB.len
  refine Fn.intro (args := [.slice A n ca, .slice B m cb]) mix14 Tryz.func35 rfl (by decide) Tryz.ntmps35 rfl (low35 rfl) rfl ?_
  conv => whnf
  refine br_dec (fun h1 => ?_) (fun h1 => ?_)
  · conv => whnf
    refine .done ⟨?_, rfl⟩
    rw [decide_eq_false (fun e => by subst e; omega)]; rfl
  have hnm : n = m := by omega
  subst hnm
  conv => whnf
  refine .mk Nat [0, 1, 5] (fun k => [.v (.slice A n ca), .v (.slice B n cb), .v (iv k)]) (fun _ => []) (fun k h' => h' = h ∧ k ≤ n ∧ a.take k = b.take k) (fun k => n - k) 0 (fun _ => rfl) ⟨rfl, Nat.zero_le _, by simp⟩ rfl rfl ?_
  rintro k e h' ⟨rfl, hk, heq⟩
  conv => whnf
  refine br_dec (fun h2 => ?_) (fun h2 => ?_)
  · have hk' : k < n := by omega
    obtain ⟨g, hg⟩ := hA.ad (by omega)
    obtain ⟨g2, hg2⟩ := hB.ad (by omega)
    have hst := take_eq_step heq (by omega) (by omega)
    conv => whnf
    refine .mk g hg (by omega) (by omega) ?_
    conv => whnf
    refine .hp (iv (a[k]'(by omega))) (by rw [Int.toNat_natCast]; exact hA.one hg (r := [iv (a[k]'(by omega))]) (by simp [hal, hk']) rfl) ?_
    conv => whnf
    refine .mk g2 hg2 (by omega) (by omega) ?_
    conv => whnf
    refine .hp (iv (b[k]'(by omega))) (by rw [Int.toNat_natCast]; exact hB.one hg2 (r := [iv (b[k]'(by omega))]) (by simp [hbl, hk']) rfl) ?_
    conv => whnf
    refine br_dec (fun h3 => ?_) (fun h3 => ?_)
    · conv => whnf
      refine .done ⟨?_, rfl⟩
      rw [decide_eq_false (fun e => h3 (by subst e; rfl))]; rfl
    · conv => whnf
      refine .ok (by omega) (by omega) ?_
      conv => whnf
      exact ⟨k + 1, rfl, rfl, ⟨rfl, hk', hst.2 (Decidable.not_not.1 h3)⟩, by omega⟩
  · have : k = n := by omega
    subst this
    conv => whnf
    refine .done ⟨?_, rfl⟩
    rw [List.take_of_length_le (by omega), List.take_of_length_le (by omega)] at heq
    rw [decide_eq_true heq]; rfl
theorem equal41 (A B : Option Addr) (n m ca cb : Nat) (a b : List Int) (h : Hp) (hA : Tab h 1 A n (a.map fun z => [iv z])) (hB : Tab h 1 B m (b.map fun z => [iv z])) (hn : n ≤ 9223372036854775806) :
    Fn Tryz.prog 51 #[.slice A n ca, .slice B m cb] h fun r h' => r = .bool (decide (a = b)) ∧ h' = h := by
  have hal : a.length = n := by simpa using hA.len
  have hbl : b.length = m := by simpa using hB.len
  refine Fn.intro (args := [.slice A n ca, .slice B m cb]) mix14 Tryz.func51 rfl (by decide) Tryz.ntmps51 rfl (low51 rfl) rfl ?_
  conv => whnf
  refine br_dec (fun h1 => ?_) (fun h1 => ?_)
  · conv => whnf
    refine .done ⟨?_, rfl⟩
    rw [decide_eq_false (fun e => by subst e; omega)]; rfl
  have hnm : n = m := by omega
  subst hnm
  conv => whnf
  refine .mk Nat [0, 1, 12, 13] (fun k => [.v (.slice A n ca), .v (.slice B n cb), .v (iv n), .v (iv k)]) (fun _ => []) (fun k h' => h' = h ∧ k ≤ n ∧ a.take k = b.take k) (fun k => n - k) 0 (fun _ => rfl) ⟨rfl, Nat.zero_le _, by simp⟩ rfl rfl ?_
  rintro k e h' ⟨rfl, hk, heq⟩
  conv => whnf
  refine br_dec (fun h2 => ?_) (fun h2 => ?_)
  · have hk' : k < n := by omega
    obtain ⟨g, hg⟩ := hA.ad (by omega)
    obtain ⟨g2, hg2⟩ := hB.ad (by omega)
    have hst := take_eq_step heq (by omega) (by omega)
    conv => whnf
    refine .mk g hg (by omega) (by omega) ?_
    conv => whnf
    refine .hp (iv (a[k]'(by omega))) (by rw [Int.toNat_natCast]; exact hA.one hg (r := [iv (a[k]'(by omega))]) (by simp [hal, hk']) rfl) ?_
    conv => whnf
    refine .mk g2 hg2 (by omega) (by omega) ?_
    conv => whnf
    refine .hp (iv (b[k]'(by omega))) (by rw [Int.toNat_natCast]; exact hB.one hg2 (r := [iv (b[k]'(by omega))]) (by simp [hbl, hk']) rfl) ?_
    conv => whnf
    refine br_dec (fun h3 => ?_) (fun h3 => ?_)
    · conv => whnf
      refine .done ⟨?_, rfl⟩
      rw [decide_eq_false (fun e => h3 (by subst e; rfl))]; rfl
    · conv => whnf
      refine .ok (by omega) (by omega) ?_
      conv => whnf
      exact ⟨k + 1, rfl, rfl, ⟨rfl, hk', hst.2 (Decidable.not_not.1 h3)⟩, by omega⟩
  · have : k = n := by omega
    subst this
    conv => whnf
    refine .done ⟨?_, rfl⟩
    rw [List.take_of_length_le (by omega), List.take_of_length_le (by omega)] at heq
    rw [decide_eq_true heq]; rfl
/-- a list of lists of numbers, to be read -/
structure ListsAt (h : Hp) (A : Option Addr) (rows : List (List Int)) (J : Nat → Option Addr × Nat) : Prop where
  outer : Tab h 1 A rows.length ((List.range rows.length).map fun i => [.slice (J i).1 (rows.getD i []).length (J i).2])
  inner : ∀ i, i < rows.length → Tab h 1 (J i).1 (rows.getD i []).length ((rows.getD i []).map fun z => [iv z])
theorem ListsAt.mono {h h' : Hp} {A : Option Addr} {rows : List (List Int)} {J : Nat → Option Addr × Nat} (x : ListsAt h A rows J) (l : h.le h') : ListsAt h' A rows J := ⟨x.outer.mono l, fun i hi => (x.inner i hi).mono l⟩
theorem rowCells_flat (n : Nat) (J : Nat → Addr × Nat) (rows : List (List Int)) (hl : ∀ i, i < rows.length → (rows.getD i []).length = n) : rowCells n J rows.length = ((List.range rows.length).map fun i => [Value.slice (some (J i).1) (rows.getD i []).length (J i).2]).flatten := by
  have : ∀ l : List Nat, (∀ i ∈ l, i < rows.length) → l.map (fun i => Value.slice (some (J i).1) n (J i).2) = (l.map fun i => [Value.slice (some (J i).1) (rows.getD i []).length (J i).2]).flatten := by
    intro l
    induction l with
    | nil => intro _; rfl
    | cons x l ih =>
      intro hx
      rw [List.map_cons, List.map_cons, List.flatten_cons, ih fun i hi => hx i (List.mem_cons_of_mem _ hi), hl x (hx x (List.mem_cons_self ..))]
      rfl
  exact this _ fun i hi => List.mem_range.1 hi
theorem RowsAt.lens {X : Hp} {n : Nat} {rows : List (List Int)} {A : Option Addr} {c : Nat} {J : Nat → Addr × Nat} (x : RowsAt X n rows A c J) (i : Nat) (hi : i < rows.length) : (rows.getD i []).length = n := by
  have := (x.inner i hi).1
  rw [List.getD_eq_getElem?_getD, List.getElem?_eq_getElem hi]
  simpa using this
theorem RowsAt.lists {X : Hp} {n : Nat} {rows : List (List Int)} {A : Option Addr} {c : Nat} {J : Nat → Addr × Nat} (x : RowsAt X n rows A c J) : ListsAt X A rows fun i => (some (J i).1, (J i).2) := by
  refine ⟨?_, fun i hi => ?_⟩
  · have := x.outer
    rw [rowCells_flat n J rows x.lens] at this
    exact this.tab (fun r hr => by obtain ⟨i, _, rfl⟩ := List.mem_map.1 hr; rfl) (by decide)
  · have := (x.inner i hi).one
    rw [x.lens i hi, List.getD_eq_getElem?_getD, List.getElem?_eq_getElem hi]
    exact this
theorem map_range {α : Type} {f : Nat → α} {n k : Nat} (hk : k < n) : ((List.range n).map f)[k]? = some (f k) := by
  rw [List.getElem?_map, List.getElem?_range hk]; rfl
end Go.Sx
namespace Go.Sx
open Go.Proofs
set_option maxRecDepth 100000
def markArc : Arc := ⟨-7770777, 0, 0, 0, 0⟩
/-- a net lent: its arcs, and a mark behind them -/
structure LentAt (h : Hp) (A : Option Addr) (n c : Nat) (arcs : List Arc) : Prop where
  len : arcs.length = n
  cap : n + 1 ≤ c
  row : Tab h 5 A (n + 1) ((arcs ++ [markArc]).map Arc.cells)
theorem LentAt.tab {h : Hp} {A : Option Addr} {n c : Nat} {arcs : List Arc} (x : LentAt h A n c arcs) : Tab h 5 A n (arcs.map Arc.cells) := by
  have := x.row.take (k := n) (by omega)
  rwa [List.map_append, List.take_left' (by simpa using x.len)] at this
theorem LentAt.mono {h h' : Hp} {A : Option Addr} {n c : Nat} {arcs : List Arc} (x : LentAt h A n c arcs) (l : h.le h') : LentAt h' A n c arcs := ⟨x.len, x.cap, x.row.mono l⟩
theorem lentNet10 (N : Int) (A : Option Addr) (n cap : Nat) (arcs : List Arc) (h : Hp) (ht : Tab h 5 A n (arcs.map Arc.cells)) (hn : n * 40 ≤ 140737488355328) :
    Fn Tryz.prog 5 #[netV N A n cap] h fun r h' => h.le h' ∧ ∃ A' c', r = netV N A' n c' ∧ LentAt h' A' n c' arcs := by
  have hlen : arcs.length = n := by simpa using ht.len
  refine Fn.intro (args := [netV N A n cap]) mix14 Tryz.func5 rfl (by decide) Tryz.ntmps5 rfl (low5 rfl) rfl ?_
  conv => whnf
  refine .done (.fresh _ rfl rfl rfl (ht.src _) (arcs_one arcs) (by simp [maxLen]; omega) (by omega) fun A1 c1 hA1 => ?_)
  conv => whnf
  refine .done (.push 2 _ markArc.cells rfl rfl (fun u hu => arcs_one [markArc] u (by simpa using hu)) rfl (by simp [maxLen]; omega) hn (by decide) fun A2 c2 hA2 => ?_)
  conv => whnf
  refine .mk 0 n rfl rfl (Nat.zero_le _) (by omega) fun B hB1 hB2 => ?_
  conv => whnf
  refine .pub 2 47 5 A2 (n + 1) c2 _ rfl fun h' hle hr _ => .done ⟨hle, A2, c2, ?_, hlen, hA2.2, ?_⟩
  · have hB : B = A2 := by
      by_cases q : 0 < c2
      · rw [hB1 q]; cases A2 with
        | none => rfl
        | some a => simp [add_zero]
      · exact hB2 (by omega)
    subst hB
    simp only [oneVal, Nat.sub_zero]; rfl
  · have hr : RowAt h' 47 5 A2 (n + 1) c2 ((arcs.map Arc.cells).flatten ++ markArc.cells) := hr
    rw [show (arcs.map Arc.cells).flatten ++ markArc.cells = ((arcs ++ [markArc]).map Arc.cells).flatten by simp] at hr
    exact hr.tab (arcs_wid _) (by decide)
theorem keptNet17 (N M : Int) (A B : Option Addr) (n c m c2 : Nat) (arcs arcs2 : List Arc) (h : Hp) (ht : LentAt h A n c arcs) (hu : Tab h 5 B m (arcs2.map Arc.cells)) (hn : n ≤ 9223372036854775805) (hs : N = M ∧ arcs = arcs2) :
    Fn Tryz.prog 11 #[netV N A n c, netV M B m c2] h fun r h' => r = .bool true ∧ h' = h := by
  obtain ⟨rfl, rfl⟩ := hs
  have hm : arcs.length = m := by simpa using hu.len
  have hnm : n = m := by rw [← ht.len, hm]
  subst hnm
  have hc := ht.cap
  obtain ⟨g, rfl⟩ := ht.row.ad (by omega)
  refine Fn.intro (args := [netV N (some g) n c, netV N B n c2]) mix14 Tryz.func11 rfl (by decide) Tryz.ntmps11 rfl (low11 rfl) rfl ?_
  conv => whnf
  refine .ok (by omega) (by omega) ?_
  conv => whnf
  refine .mk 0 (n + 1) rfl rfl (Nat.zero_le _) hc fun G hG1 _ => ?_
  obtain rfl : G = some g := by rw [hG1 (by omega)]; simp [add_zero]
  conv => whnf
  refine .done (.mk _ (sameNet14 N N _ _ n n c c2 arcs arcs h ht.tab hu (by omega)) ?_)
  rintro _ h' ⟨rfl, rfl⟩
  rw [decide_eq_true ⟨rfl, rfl⟩]
  conv => whnf
  refine .mk g rfl (by omega) (by omega) ?_
  conv => whnf
  refine .hp (iv (-7770777)) (by rw [Int.toNat_natCast, add_add]; exact ht.row.cell g rfl n markArc.cells (by rw [List.getElem?_map, List.getElem?_append_right (by omega), hm, Nat.sub_self]; rfl) 0 _ rfl) ?_
  conv => whnf
  exact .done ⟨rfl, rfl⟩
end Go.Sx
namespace Go.Sx
open Go.Proofs
set_option maxRecDepth 100000
theorem along12 (N : Int) (n cap : Nat) (arcs : List Arc) (A D : Option Addr) (r cap2 : Nat) (zs : List Int) (h : Hp) (ht : Tab h 5 A n (arcs.map Arc.cells)) (hn : n * 40 ≤ 140737488355328) (hz : Tab h 1 D r (zs.map fun z => [iv z])) :
    Fn Tryz.prog 45 #[netV N A n cap, .slice D r cap2] h fun v h' => OverOk h N arcs zs (.slice none 0 0) (RAlong arcs.length) v h' := by
  refine Fn.intro (args := [netV N A n cap, .slice D r cap2]) mix14 Tryz.func45 rfl (by decide) Tryz.ntmps45 rfl (low45 rfl) rfl ?_
  conv => whnf
  refine .done (.mk _ (over29 72 (RAlong arcs.length) N n cap arcs A D r cap2 zs h ht hn hz (rAlong_nil _) (next30 (by decide))) ?_)
  rintro v h' ⟨hle, hb, hg⟩
  by_cases he : (along N arcs zs).1 = 0
  · obtain ⟨v, X, rfl, h1, h2, h3⟩ := hg he
    conv => whnf
    exact .done ⟨hle, fun q => absurd he q, fun _ => ⟨v, X, rfl, h1, h2, h3⟩⟩
  · obtain rfl := hb he
    conv => whnf
    exact .done ⟨hle, fun _ => rfl, fun q => absurd q he⟩
theorem over37_38 (N : Int) (n cap : Nat) (arcs : List Arc) (A D : Option Addr) (r cap2 : Nat) (zs : List Int) (h : Hp) (ht : Tab h 5 A n (arcs.map Arc.cells)) (hn : n * 40 ≤ 140737488355328) (hz : Tab h 1 D r (zs.map fun z => [iv z])) :
    Fn Tryz.prog 52 #[netV N A n cap, .slice D r cap2, .slice none 0 0, .func (.func 53) #[] #[]] h fun v h' => OverOk h N arcs zs (.slice none 0 0) (RMost arcs.length) v h' := by
  by_cases hs : chk N arcs = 0
  · exact over37 53 (RMost arcs.length) N n cap arcs A D r cap2 zs h ht hn hz (rMost_nil _) (next38 (by have := (chk_zero hs).2.2.1; omega))
  · exact over37_bad 53 (RMost arcs.length) N n cap arcs A D r cap2 zs h ht hn hs
theorem most19 (N : Int) (n cap : Nat) (arcs : List Arc) (A D : Option Addr) (r cap2 : Nat) (zs : List Int) (h : Hp) (ht : Tab h 5 A n (arcs.map Arc.cells)) (hn : n * 40 ≤ 140737488355328) (hz : Tab h 1 D r (zs.map fun z => [iv z])) :
    Fn Tryz.prog 38 #[netV N A n cap, .slice D r cap2] h fun v h' => OverOk h N arcs zs (.slice none 0 0) (RMost arcs.length) v h' := by
  refine Fn.intro (args := [netV N A n cap, .slice D r cap2]) mix14 Tryz.func38 rfl (by decide) Tryz.ntmps38 rfl (low38 rfl) rfl ?_
  conv => whnf
  refine .done (.mk _ (over37_38 N n cap arcs A D r cap2 zs h ht hn hz) ?_)
  rintro v h' ⟨hle, hb, hg⟩
  by_cases he : (along N arcs zs).1 = 0
  · obtain ⟨v, X, rfl, h1, h2, h3⟩ := hg he
    conv => whnf
    exact .done ⟨hle, fun q => absurd he q, fun _ => ⟨v, X, rfl, h1, h2, h3⟩⟩
  · obtain rfl := hb he
    conv => whnf
    exact .done ⟨hle, fun _ => rfl, fun q => absurd q he⟩
def homeOf (N : Int) (arcs : List Arc) (zs : List Int) : Bool := decide ((along N arcs zs).1 = 0) && decide ((along N arcs zs).2.headD [] = (along N arcs zs).2.getLastD [])
theorem along_ne {N : Int} {arcs : List Arc} {zs : List Int} (h : (along N arcs zs).1 = 0) : (along N arcs zs).2 ≠ [] := by
  by_cases hs : chk N arcs = 0
  · by_cases hl : 2048 < zs.length
    · rw [along_long hs hl] at h; cases h
    · rw [along, if_pos hs, if_neg hl]; simp
  · rw [along_bad hs] at h; exact absurd h hs
theorem alongR_len {N : Nat} {arcs : List Arc} : ∀ (zs f : List Int), (alongR N arcs zs f).2.length ≤ zs.length
  | [], f => Nat.le_refl _
  | v :: zs, f => by
    unfold alongR
    split
    · simp
    · split
      · have := alongR_len (N := N) (arcs := arcs) zs (bump f v.toNat)
        simp; omega
      · simp
theorem along_size (N : Int) (arcs : List Arc) (zs : List Int) : (along N arcs zs).2.length ≤ 2049 := by
  unfold along
  split
  · split
    · simp
    · have := alongR_len (N := N.toNat) (arcs := arcs) zs (List.replicate N.toNat 0)
      simp; omega
  · simp
theorem home22 (N : Int) (n cap : Nat) (arcs : List Arc) (A D : Option Addr) (r cap2 : Nat) (zs : List Int) (h : Hp) (ht : Tab h 5 A n (arcs.map Arc.cells)) (hn : n * 40 ≤ 140737488355328) (hz : Tab h 1 D r (zs.map fun z => [iv z])) :
    Fn Tryz.prog 37 #[netV N A n cap, .slice D r cap2] h fun v h' => v = .tuple #[.bool (homeOf N arcs zs), iv (along N arcs zs).1] ∧ h.le h' := by
  have hlen : arcs.length = n := by simpa using ht.len
  refine Fn.intro (args := [netV N A n cap, .slice D r cap2]) mix14 Tryz.func37 rfl (by decide) Tryz.ntmps37 rfl (low37 rfl) rfl ?_
  conv => whnf
  refine .done (.mk _ (over39 50 (RHome arcs.length) N n cap arcs A D r cap2 zs h ht hn hz (rHome_nil _) (rHome_shape _) next40) ?_)
  rintro v h' ⟨hle, hb, hg⟩
  by_cases he : (along N arcs zs).1 = 0
  · obtain ⟨v, X, rfl, h1, h2, h3⟩ := hg he
    obtain ⟨ga, ca, gb, cb, rfl, q1, q2⟩ := h1.2 (along_ne he)
    conv => whnf
    refine .done (.mk _ (equal41 _ _ _ _ _ _ _ _ _ (q1.mono h2).one (q2.mono h2).one (by omega)) ?_)
    rintro _ h3 ⟨rfl, rfl⟩
    have hh : homeOf N arcs zs = decide ((along N arcs zs).2.headD [] = (along N arcs zs).2.getLastD []) := by rw [homeOf, decide_eq_true he, Bool.true_and]
    conv => whnf
    refine .done ⟨?_, hle⟩
    rw [hh, he]; rfl
  · obtain rfl := hb he
    conv => whnf
    refine br_dec (fun q => absurd q he) (fun _ => ?_)
    conv => whnf
    refine .done ⟨?_, hle⟩
    rw [homeOf, decide_eq_false he]; rfl
def twoArcs : List Arc := [⟨0, 1, 2, 3, 0⟩, ⟨1, 0, 3, 2, 4⟩]
end Go.Sx
namespace Go.Sx
open Go.Proofs
set_option maxRecDepth 100000
theorem litNums {h : Hp} {b : Nat} {l : List Int} {n : Nat} (hb : h b = some (.cells (l.map iv).toArray 3 (0, 0))) (hn : l.length = n) : Tab h 1 (some ⟨b, 0, none⟩) n (l.map fun z => [iv z]) := by
  subst hn; exact tab_nums hb
def exArcs : List Arc := [⟨0, 1, 2, 1, 0⟩, ⟨1, 0, 1, 2, 2⟩]
theorem two24 (h : Hp) : Fn Tryz.prog 32 #[] h fun r h' => ∃ A, r = netV 2 A 2 2 ∧ h.le h' ∧ Tab h' 5 A 2 (exArcs.map Arc.cells) := by
  refine Fn.intro (args := []) mix14 Tryz.func32 rfl (by decide) Tryz.ntmps32 rfl (low32 rfl) rfl ?_
  conv => whnf
  refine .mk fun b hb => ?_
  conv => whnf
  exact .done ⟨_, rfl, Hp.le_put hb, .lit put_at rfl (arcs_wid _) rfl⟩
def regV (A : Option Addr) (n cap : Nat) (t : Int) : Value := .agg #[.slice A n cap, iv t]
abbrev Rg := Int × Int
def Rg.cells (x : Rg) : List Value := [iv x.1, iv x.2]
theorem plan25 (a b c d t : Int) (h : Hp) : Fn Tryz.prog 33 #[iv a, iv b, iv c, iv d, iv t] h fun r h' => ∃ A, r = regV A 2 2 t ∧ h.le h' ∧ Tab h' 2 A 2 ([(a, b), (c, d)].map Rg.cells) := by
  refine Fn.intro (args := [iv a, iv b, iv c, iv d, iv t]) mix14 Tryz.func33 rfl (by decide) Tryz.ntmps33 rfl (low33 rfl) rfl ?_
  conv => whnf
  refine .mk fun q hq => ?_
  conv => whnf
  exact .done ⟨_, rfl, Hp.le_put hq, .lit put_at rfl (by intro r hr; simp at hr; rcases hr with rfl | rfl <;> rfl) rfl⟩
end Go.Sx
