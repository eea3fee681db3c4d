/- A slice of numbers as an argument, opened. Conditions: none. -/
import Derived.Test.YthibgmkobcbhhaaGreatE1
namespace Go.Sx
open Go.Proofs Go.RowKit Go.ChangeShapes Go.WideShapes
section
variable {P : Program} {H : Type} {enc : TypeId × Value → H}
theorem open_nums_ {W : World} {spare : Nat → Bool} {held : Bool} {t e fuel : Nat} {v : Value} {x : DataW H × List MemPlace}
    (ht : P.underlying t = some (.slice e)) (he : P.underlying e = some (.int .i64)) (hC : P.cellsOf e = 1)
    (h : DataW.trod enc P W 0 spare held fuel t [v] = some x) :
    ∃ (A : Option Addr) (n cap : Nat) (l : List Int), v = .slice A n cap ∧ Tab (Hp.of W) 1 A n (l.map fun z => [iv z]) ∧ n ≤ cap ∧ ∃ el sp, (x.1 = .slice el sp ∧ n ≤ el.length) ∨ (x.1 = .nil ∧ n = 0) := by
  rcases Deep.open_slice ht h with ⟨h0, h1⟩ | ⟨a, len, cap, m, n, D, Pl, hcs, hb, hl, hm, hmm, hx, hi⟩
  · injection h0 with h0
    exact ⟨none, 0, 0, [], h0, Tab.nil _ _ _, Nat.le_refl _, [], [], .inr ⟨by rw [h1], rfl⟩⟩
  · injection hcs with hcs
    have hlm : len ≤ m := by rw [hmm]; split <;> omega
    have key : ∀ i, i < len → ∃ z : Int, W.cell? (a.add i) = some (iv z) := fun i hil => by
      obtain ⟨cs', hc, ht'⟩ := hi i (by omega)
      rw [hC, Nat.mul_one] at hc
      obtain ⟨z, hz, _⟩ := DataW.trod_int he ht'
      obtain ⟨_, hcl, hat⟩ := World.cells?_some hc
      refine ⟨z, ?_⟩
      have := hat 0 (by omega)
      rw [add_zero] at this
      rw [this, hz]; rfl
    obtain ⟨l, hll, hlr⟩ := choose_list (fun i (b : Int) => W.cell? (a.add i) = some (iv b)) len key
    refine ⟨some a, len, cap, l, hcs, ⟨by simpa using hll, fun r hr => ?_, fun _ => ⟨a, rfl⟩, fun g hg i r hr j u hu => ?_⟩, hl, (List.range len).map D, _, .inl ⟨by rw [hx], by simp⟩⟩
    · obtain ⟨b, _, rfl⟩ := List.mem_map.1 hr
      rfl
    · injection hg with hg
      subst hg
      rw [List.getElem?_map, Option.map_eq_some_iff] at hr
      obtain ⟨b, hb', rfl⟩ := hr
      have hj : j = 0 := by
        have := (List.getElem?_eq_some_iff.1 hu).1
        simpa using this
      subst hj
      injection hu with hu
      subst hu
      rw [Nat.mul_one, Nat.add_zero]
      exact of_cell (hlr i b hb')
end
end Go.Sx
