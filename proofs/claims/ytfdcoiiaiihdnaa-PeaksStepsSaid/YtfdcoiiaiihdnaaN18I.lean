/- Layer 18: the step functions of most and of home. Conditions: none. -/
import Derived.Test.YtfdcoiiaiihdnaaN18H
namespace Go.Sx
open Go.Proofs
def maxes : List (List Int) → List Int
  | [] => []
  | r :: rs => rs.foldl (fun a b => List.zipWith max a b) r
theorem maxes_add {rows : List (List Int)} (h : rows ≠ []) (t : List Int) : maxes (rows ++ [t]) = List.zipWith max (maxes rows) t := by
  cases rows with
  | nil => exact absurd rfl h
  | cons r rs => simp [maxes]
def RMost (n : Nat) (rows : List (List Int)) (v : Value) (X : Hp) : Prop :=
  (rows = [] → v = .slice none 0 0) ∧ (rows ≠ [] → ∃ g c, v = .slice (some g) n c ∧ RowAt X 3 1 (some g) n c ((maxes rows).map iv))
theorem rMost_nil (n : Nat) : RMost n [] (.slice none 0 0) Hp.empty := ⟨fun _ => rfl, fun h => absurd rfl h⟩
def mixL (a b : List Int) (k : Nat) : List Int := (List.zipWith max a b).take k ++ a.drop k
theorem mixL_zero (a b : List Int) : mixL a b 0 = a := by simp [mixL]
theorem mixL_all {a b : List Int} {n : Nat} (ha : a.length = n) (hb : b.length = n) : mixL a b n = List.zipWith max a b := by
  unfold mixL
  rw [List.drop_eq_nil_of_le (by omega), List.append_nil, List.take_of_length_le (by simp; omega)]
theorem mixL_len {a b : List Int} {n k : Nat} (ha : a.length = n) (hb : b.length = n) (hk : k ≤ n) : (mixL a b k).length = n := by
  simp [mixL]; omega
theorem mixL_at {a b : List Int} {n k : Nat} (ha : a.length = n) (hb : b.length = n) (hk : k < n) : (mixL a b k)[k]? = some a[k] := by
  unfold mixL
  rw [List.getElem?_append_right (by simp; omega)]
  simp; rw [show k - min k (min a.length b.length) = 0 by omega]; simp
theorem mixL_step {a b : List Int} {n k : Nat} (ha : a.length = n) (hb : b.length = n) (hk : k < n) : (mixL a b k).set k (max a[k] b[k]) = mixL a b (k + 1) := by
  unfold mixL
  have hl : ((List.zipWith max a b).take k).length = k := by simp; omega
  rw [List.set_append_right _ _ (by omega), hl, Nat.sub_self, List.drop_eq_getElem_cons (by omega), List.set_cons_zero, take_succ' (by simp; omega), List.getElem_zipWith]
  simp
theorem next38 {n M : Nat} (hn : n ≤ 4096) : NextOk 38 (RMost n) M n := by
  rintro rows v X h g c toks hlen ⟨hX1, hX2⟩ hle hXg hrow htl
  by_cases hr : rows = []
  · subst hr
    obtain rfl := hX1 rfl
    refine Fn.intro (args := [.slice none 0 0, .slice (some g) n c]) mix14 Try.func38 rfl (by decide) Try.ntmps38 rfl (low38 rfl) rfl ?_
    conv => whnf
    refine .done ⟨h.on fun j => j = g.block, ⟨fun e => by simp at e, fun _ => ⟨g, c, rfl, ?_⟩⟩, Hp.on_le _ _, fun K hk hd hkg => ⟨hk, fun j hj => ?_⟩⟩
    · exact hrow.on fun q e => by injection e with e; subst e; rfl
    · rw [Hp.on_ne hj]; exact hkg
  · obtain ⟨ga, ca, rfl, hA⟩ := hX2 hr
    have hal : (maxes rows).length = n := by have := hA.1; simpa using this
    have hne : ga.block ≠ g.block := fun q => hA.mem rfl (by rw [q]; exact hXg)
    obtain ⟨gb, rfl⟩ : ∃ gb, ga = ⟨gb, 0, none⟩ := by
      rcases hA.2 with ⟨q, _⟩ | ⟨b, _, q, _⟩
      · cases q
      · injection q with q; exact ⟨b, q⟩
    have htab := (hrow.del (B := some ⟨gb, 0, none⟩) fun g1 g2 e1 e2 => by injection e1 with e1; injection e2 with e2; subst e1; subst e2; exact hne.symm).one
    have hgt := htab.ad
    refine Fn.intro (args := [.slice (some ⟨gb, 0, none⟩) n ca, .slice (some g) n c]) mix14 Try.func38 rfl (by decide) Try.ntmps38 rfl (low38 rfl) rfl ?_
    conv => whnf
    refine .mk Nat [0, 10, 11, 12] (fun k => [.v (.slice (some ⟨gb, 0, none⟩) n ca), .v (.slice (some g) n c), .v (iv n), .v (iv k)]) (fun _ => [])
      (fun k h' => k ≤ n ∧ (h.del gb).le h' ∧ RowAt h' 3 1 (some ⟨gb, 0, none⟩) n ca ((mixL (maxes rows) toks k).map iv)) (fun k => n - k) 0 (fun _ => rfl) ⟨Nat.zero_le _, Hp.del_le _ _, by rw [mixL_zero]; exact hA.mono hle⟩ rfl rfl ?_
    rintro k e h' ⟨hk, hd, hro⟩
    conv => whnf
    refine br_dec (fun h1 => ?_) (fun h1 => ?_)
    · have hk' : k < n := by omega
      conv => whnf
      refine .mk g rfl (by omega) (by omega) ?_
      conv => whnf
      refine .hp (iv toks[k]) (by rw [Int.toNat_natCast]; exact (htab.mono hd).one rfl (r := [iv toks[k]]) (by simp [htl, hk']) rfl) ?_
      conv => whnf
      refine .mk ⟨gb, 0, none⟩ rfl (by omega) (by omega) ?_
      conv => whnf
      refine .hp (iv ((maxes rows)[k]'(by omega))) (by rw [Int.toNat_natCast]; exact hro.one.one rfl (r := [iv ((maxes rows)[k]'(by omega))]) (by simp [mixL_at hal htl hk']) rfl) ?_
      conv => whnf
      refine .mk ⟨gb, 0, none⟩ rfl (by omega) (by omega) ?_
      conv => whnf
      obtain ⟨g3, cs, cs', e1, e2, e3, e4⟩ := hro.write (off := k) (by omega) (iv (max ((maxes rows)[k]'(by omega)) (toks[k]'(by omega))))
      injection e1 with e1
      injection e1 with e1
      subst e1
      refine .hp gb k 3 cs cs' (by rw [Int.toNat_natCast, add_lit, Nat.mul_one, Nat.zero_add]) e2 e3 ?_
      conv => whnf
      refine .ok (by omega) (by omega) ?_
      conv => whnf
      refine ⟨k + 1, rfl, rfl, ⟨hk', fun j o q => ?_, ?_⟩, by omega⟩
      · rw [Hp.put_ne _ _ (fun w => by subst w; rw [Hp.del_same] at q; cases q)]; exact hd j o q
      · rw [← mixL_step hal htl hk', List.map_set]; exact e4
    · have : k = n := by omega
      subst this
      rw [mixL_all hal htl, ← maxes_add hr] at hro
      conv => whnf
      refine .done ⟨h'.on fun j => j = gb, ⟨fun e => by simp at e, fun _ => ⟨⟨gb, 0, none⟩, ca, rfl, ?_⟩⟩, Hp.on_le _ _, fun K hk hdj hkg => ?_⟩
      · exact hro.on fun q e => by injection e with e; subst e; rfl
      · have hkb : K gb = none := hdj gb (hA.mem rfl)
        refine ⟨fun j o q => hd j o ?_, fun j hj => by rw [Hp.on_ne hj]; exact hkb⟩
        rw [Hp.del_ne _ (fun w => by subst w; rw [hkb] at q; cases q)]
        exact hk j o q
def RHome (n : Nat) (rows : List (List Int)) (v : Value) (X : Hp) : Prop :=
  (rows = [] → v = .agg #[.slice none 0 0, .slice none 0 0]) ∧ (rows ≠ [] → ∃ ga ca gb cb, v = .agg #[.slice (some ga) n ca, .slice (some gb) n cb] ∧ RowAt X 3 1 (some ga) n ca ((rows.headD []).map iv) ∧ RowAt X 3 1 (some gb) n cb ((rows.getLastD []).map iv))
theorem rHome_nil (n : Nat) : RHome n [] (.agg #[.slice none 0 0, .slice none 0 0]) Hp.empty := ⟨fun _ => rfl, fun h => absurd rfl h⟩
theorem rHome_shape (n : Nat) (rows : List (List Int)) (v : Value) (X : Hp) (h : RHome n rows v X) : ∃ x y : Option Addr × Nat × Nat, v = .agg #[.slice x.1 x.2.1 x.2.2, .slice y.1 y.2.1 y.2.2] := by
  by_cases hr : rows = []
  · exact ⟨(none, 0, 0), (none, 0, 0), h.1 hr⟩
  · obtain ⟨ga, ca, gb, cb, e, _⟩ := h.2 hr
    exact ⟨(some ga, n, ca), (some gb, n, cb), e⟩
set_option maxRecDepth 100000 in
theorem next40 {n M : Nat} : NextOkM 40 (RHome n) M n := by
  rintro rows v X h g c toks hlen ⟨hX1, hX2⟩ hle hXg hrow htl
  have hlast : (rows ++ [toks]).getLastD [] = toks := by simp
  by_cases hr : rows = []
  · subst hr
    obtain rfl := hX1 rfl
    refine Fn.intro (args := [.agg #[.slice none 0 0, .slice none 0 0], .slice (some g) n c]) mix14 Try.func40 rfl (by decide) Try.ntmps40 rfl (low40 rfl) rfl ?_
    conv => whnf
    have hro : RowAt (h.on fun j => j = g.block) 3 1 (some g) n c (toks.map iv) := hrow.on fun q e => by injection e with e; subst e; rfl
    refine .done ⟨Hp.le_refl _, h.on fun j => j = g.block, ⟨fun e => by simp at e, fun _ => ⟨g, c, g, c, rfl, hro, hro⟩⟩, Hp.on_le _ _, fun K hk hd hkg => ⟨hk, fun j hj => ?_⟩⟩
    · rw [Hp.on_ne hj]; exact hkg
  · obtain ⟨ga, ca, gb, cb, rfl, hA, hB⟩ := hX2 hr
    have hhead : (rows ++ [toks]).headD [] = rows.headD [] := by cases rows with
      | nil => exact absurd rfl hr
      | cons => rfl
    refine Fn.intro (args := [.agg #[.slice (some ga) n ca, .slice (some gb) n cb], .slice (some g) n c]) mix14 Try.func40 rfl (by decide) Try.ntmps40 rfl (low40 rfl) rfl ?_
    conv => whnf
    refine .done ⟨Hp.le_refl _, h.on fun j => j = g.block ∨ j = ga.block, ⟨fun e => by simp at e, fun _ => ⟨ga, ca, g, c, rfl, ?_, ?_⟩⟩, Hp.on_le _ _, fun K hk hd hkg => ⟨hk, fun j hj => ?_⟩⟩
    · rw [hhead]; exact (hA.mono hle).on fun q e => by injection e with e; subst e; exact .inr rfl
    · rw [hlast]; exact hrow.on fun q e => by injection e with e; subst e; exact .inl rfl
    · rcases Hp.on_ne hj with rfl | rfl
      · exact hkg
      · exact hd _ (hA.mem rfl)
end Go.Sx
