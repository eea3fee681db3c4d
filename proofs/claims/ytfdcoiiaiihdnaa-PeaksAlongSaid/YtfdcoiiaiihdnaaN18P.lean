/- Layer 18: the document's state of a net. Conditions: none. -/
import Derived.Test.YtfdcoiiaiihdnaaN18M
namespace Go.Sx
open Go.Proofs
def refV (N : Nat) (A : Option Addr) (n cap : Nat) (F : Option Addr) (c : Nat) : Value := .agg #[iv N, .slice A n cap, .slice F N c]
theorem tok_bnd {N T : Nat} {arcs : List Arc} {f : List Int} (hs : chk N arcs = 0) (hg : Good N arcs f T) {a : Arc} (ha : a ∈ arcs) :
    0 ≤ a.give * f.getD a.src.toNat 0 ∧ a.give * f.getD a.src.toNat 0 ≤ 64 * T ∧ 0 ≤ a.take * f.getD a.dst.toNat 0 ∧ a.take * f.getD a.dst.toNat 0 ≤ 64 * T := by
  have hb := okArc_zero ((chk_zero hs).2.2.2 a ha)
  have h1 := hg.at a.src.toNat
  have h2 := hg.at a.dst.toNat
  obtain ⟨p0, p1⟩ := bnd_mul (x := a.give) (y := f.getD a.src.toNat 0) (a := 64) (b := T) (by omega) (by omega) h1.1 h1.2
  obtain ⟨p2, p3⟩ := bnd_mul (x := a.take) (y := f.getD a.dst.toNat 0) (a := 64) (b := T) (by omega) (by omega) h2.1 h2.2
  exact ⟨p0, p1, p2, p3⟩
theorem has49 {N n cap cF T : Nat} {arcs : List Arc} {f : List Int} {A F : Option Addr} {h : Hp} (hs : chk N arcs = 0) (ht : Tab h 5 A n (arcs.map Arc.cells)) (hF : Tab h 1 F N (f.map fun z => [iv z])) (hg : Good N arcs f T) (hT : T ≤ 70368744177664) {i : Nat} (hi : i < arcs.length) :
    Fn Try.prog 49 #[refV N A n cap F cF, iv i] h fun r h' => r = iv (tokOf f arcs[i]) ∧ h' = h := by
  have hlen : arcs.length = n := by simpa using ht.len
  have hm := List.getElem_mem hi
  have hb := okArc_zero ((chk_zero hs).2.2.2 _ hm)
  obtain ⟨b1, b2, b3, b4⟩ := tok_bnd hs hg hm
  have hsl : arcs[i].src.toNat < f.length := by rw [hg.len]; omega
  have hdl : arcs[i].dst.toNat < f.length := by rw [hg.len]; omega
  have e1 : f.getD arcs[i].src.toNat 0 = f[arcs[i].src.toNat] := by rw [List.getD_eq_getElem?_getD, List.getElem?_eq_getElem hsl]; rfl
  have e2 : f.getD arcs[i].dst.toNat 0 = f[arcs[i].dst.toNat] := by rw [List.getD_eq_getElem?_getD, List.getElem?_eq_getElem hdl]; rfl
  rw [tokOf, e1, e2]
  rw [e1] at b1 b2
  rw [e2] at b3 b4
  obtain ⟨g, hgA⟩ := ht.ad (by omega)
  obtain ⟨g2, hgF⟩ := hF.ad (by have := (chk_zero hs).1; omega)
  refine Fn.intro (args := [refV N A n cap F cF, iv i]) mix14 Try.func49 rfl (by decide) Try.ntmps49 rfl (low49 rfl) rfl ?_
  conv => whnf
  refine .mk g hgA (by omega) (by omega) ?_
  conv => whnf
  refine .hp arcs[i].cells rfl (by rw [Int.toNat_natCast]; exact ht.row hgA (map_get hi)) ?_
  conv => whnf
  refine .mk g2 hgF (by omega) (by omega) ?_
  conv => whnf
  refine .hp (iv f[arcs[i].src.toNat]) (hF.one hgF (r := [iv f[arcs[i].src.toNat]]) (by simp [hsl]) rfl) ?_
  conv => whnf
  refine .ok (by omega) (by omega) ?_
  conv => whnf
  refine .ok (by omega) (by omega) ?_
  conv => whnf
  refine .mk g2 hgF (by omega) (by omega) ?_
  conv => whnf
  refine .hp (iv f[arcs[i].dst.toNat]) (hF.one hgF (r := [iv f[arcs[i].dst.toNat]]) (by simp [hdl]) rfl) ?_
  conv => whnf
  refine .ok (by omega) (by omega) ?_
  conv => whnf
  refine .ok (by omega) (by omega) ?_
  conv => whnf
  exact .done ⟨rfl, rfl⟩
theorem short50 {N n cap cF T : Nat} {arcs : List Arc} {f : List Int} {A F : Option Addr} {h : Hp} (hs : chk N arcs = 0) (ht : Tab h 5 A n (arcs.map Arc.cells)) (hF : Tab h 1 F N (f.map fun z => [iv z])) (hg : Good N arcs f T) (hT : T ≤ 70368744177664) (v : Int) :
    Fn Try.prog 50 #[refV N A n cap F cF, iv v] h fun r h' => (∃ k : Int, r = iv k ∧ (k < 0 ↔ ∀ a ∈ arcs, a.dst = v → a.take ≤ tokOf f a)) ∧ h' = h := by
  have hlen : arcs.length = n := by simpa using ht.len
  have hsz := (chk_zero hs).2.2.1
  refine Fn.intro (args := [refV N A n cap F cF, iv v]) mix14 Try.func50 rfl (by decide) Try.ntmps50 rfl (low50 rfl) rfl ?_
  conv => whnf
  refine .mk Nat [1, 2, 5] (fun k => [.v (iv v), .p 0 0, .v (iv k)]) (fun _ => [.own [.v (iv N), .v (.slice A n cap), .v (.slice F N cF)] 58]) (fun k h' => h' = h ∧ k ≤ n ∧ ∀ i (hi : i < arcs.length), i < k → arcs[i].dst = v → arcs[i].take ≤ tokOf f arcs[i]) (fun k => n - k) 0 (fun _ => rfl)
    ⟨rfl, Nat.zero_le _, fun i _ hi => absurd hi (Nat.not_lt_zero i)⟩ rfl rfl ?_
  rintro k e h' ⟨rfl, hk, hall⟩
  conv => whnf
  refine br_dec (fun h1 => ?_) (fun h1 => ?_)
  · have hi : k < arcs.length := by omega
    have hb := okArc_zero ((chk_zero hs).2.2.2 _ (List.getElem_mem hi))
    obtain ⟨g, hgA⟩ := ht.ad (by omega)
    have next : (arcs[k].dst = v → arcs[k].take ≤ tokOf f arcs[k]) → ∀ i (hi : i < arcs.length), i < k + 1 → arcs[i].dst = v → arcs[i].take ≤ tokOf f arcs[i] := fun hk i hi hik hd => by
      by_cases e : i = k
      · subst e; exact hk hd
      · exact hall i hi (by omega) hd
    conv => whnf
    refine .mk g hgA (by omega) (by omega) ?_
    conv => whnf
    refine .hp (iv arcs[k].dst) (by rw [Int.toNat_natCast, add_add]; exact ht.cell g hgA k _ (map_get hi) 1 _ rfl) ?_
    conv => whnf
    refine br_dec (fun h2 => ?_) (fun h2 => ?_)
    · conv => whnf
      refine .mk g hgA (by omega) (by omega) ?_
      conv => whnf
      refine .hp (iv arcs[k].take) (by rw [Int.toNat_natCast, add_add]; exact ht.cell g hgA k _ (map_get hi) 3 _ rfl) ?_
      conv => whnf
      refine .mk _ (has49 hs ht hF hg hT hi) (fun _ _ q => by rw [q.2]; exact Hp.le_refl _) ?_
      rintro _ _ ⟨rfl, rfl⟩
      conv => whnf
      refine br_dec (fun h3 => ?_) (fun h3 => ?_)
      · conv => whnf
        refine .done ⟨⟨k, rfl, ⟨fun q => by omega, fun q => ?_⟩⟩, rfl⟩
        have := q _ (List.getElem_mem hi) h2
        omega
      · conv => whnf
        refine .ok (by omega) (by omega) ?_
        conv => whnf
        exact ⟨k + 1, rfl, rfl, ⟨rfl, by omega, next fun _ => by omega⟩, by omega⟩
    · conv => whnf
      refine .ok (by omega) (by omega) ?_
      conv => whnf
      exact ⟨k + 1, rfl, rfl, ⟨rfl, by omega, next fun q => absurd q h2⟩, by omega⟩
  · conv => whnf
    refine .done ⟨⟨-1, rfl, ⟨fun _ a ha hd => ?_, fun _ => by decide⟩⟩, rfl⟩
    obtain ⟨i, hi, rfl⟩ := List.getElem_of_mem ha
    exact hall i hi (by omega) hd
theorem may34 {N n cap cF T : Nat} {arcs : List Arc} {f : List Int} {A F : Option Addr} {h : Hp} (hs : chk N arcs = 0) (ht : Tab h 5 A n (arcs.map Arc.cells)) (hF : Tab h 1 F N (f.map fun z => [iv z])) (hg : Good N arcs f T) (hT : T ≤ 70368744177664) (v : Int) :
    Fn Try.prog 34 #[refV N A n cap F cF, iv v] h fun r h' => r = .bool (may N arcs f v) ∧ h' = h := by
  refine Fn.intro (args := [refV N A n cap F cF, iv v]) mix14 Try.func34 rfl (by decide) Try.ntmps34 rfl (low34 rfl) rfl ?_
  conv => whnf
  refine .done (.mk _ (node27 N v A n cap h) ?_)
  rintro _ _ ⟨rfl, rfl⟩
  cases hv : okNode N v with
  | false =>
    conv => whnf
    refine .done ⟨?_, rfl⟩
    have : may N arcs f v = false := by unfold may mayB; rw [hv]; rfl
    rw [this]; rfl
  | true =>
    obtain ⟨u, rfl⟩ : ∃ u : Nat, v = u := by
      have := (okNode_iff N v).1 hv
      exact ⟨v.toNat, by omega⟩
    have huN : u < N := by have := (okNode_iff N (u : Int)).1 hv; omega
    conv => whnf
    refine .done (.mk _ (short50 hs ht hF hg hT (u : Int)) ?_)
    rintro _ _ ⟨⟨k, rfl, hk⟩, rfl⟩
    conv => whnf
    refine .done ⟨?_, rfl⟩
    have : may N arcs f u = decide (k < 0) := by
      rw [Bool.eq_iff_iff, may_iff, decide_eq_true_eq, hk]
      exact ⟨fun q => q.2, fun q => ⟨huN, q⟩⟩
    rw [this]; rfl
end Go.Sx
