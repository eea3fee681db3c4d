/- An argument of five whole numbers, opened. Conditions: none. -/
import Derived.Test.YtndkgmgkbedepaaO17
namespace Go.Proofs.Ytndkgmgkbedepaa
open Go.Sx Go.RowKit Go.ChangeShapes Go.WideShapes
theorem array5 {α : Type} {cs : Array α} (h : cs.size = 5) : ∃ c0 c1 c2 c3 c4, cs = #[c0, c1, c2, c3, c4] := by
  obtain ⟨l⟩ := cs
  match l, h with
  | [c0, c1, c2, c3, c4], _ => exact ⟨c0, c1, c2, c3, c4, rfl⟩
section
variable {H : Type} {enc : TypeId × Value → H}
theorem open_five {P : Program} {W : World} {v : Value} {d : DataW H} {p : List MemPlace} {r : Reach} {b0 t tz : Nat} {f0 f1 f2 f3 f4 : Field} (hu : P.underlying t = some (.struct #[f0, f1, f2, f3, f4])) (hone : Deep.oneCellFields P #[f0, f1, f2, f3, f4] = true) (hC : P.cellsOf t = 5)
    (h0 : f0.type = tz) (h1 : f1.type = tz) (h2 : f2.type = tz) (h3 : f3.type = tz) (h4 : f4.type = tz) (hz : P.underlying tz = some (.int .i64))
    (hv : Value.okWide P W r b0 t v) (h : DataW.Trod enc P W 0 (fun _ => true) true t v d p) :
    ∃ a b s u m : Int, v = .agg #[iv a, iv b, iv s, iv u, iv m] := by
  obtain ⟨cs, rfl, hsz⟩ := okWide_struct hu hv
  obtain ⟨c0, c1, c2, c3, c4, rfl⟩ := array5 (hsz.trans hC)
  obtain ⟨fuel, hf⟩ := h
  obtain ⟨ys, n, hn, hy, hcl, hyl, hff⟩ := DataW.trod_struct hu hf
  have part : ∀ j (c : Value) (f : Field), (#[f0, f1, f2, f3, f4] : Array Field)[j]? = some f → ((#[c0, c1, c2, c3, c4] : Array Value).toList.drop j).take 1 = [c] → f.type = tz → ∃ z : Int, c = iv z := fun j c f hj hc ht => by
    obtain ⟨ho, hk⟩ := Deep.hone_of hone j f hj
    have h1 := hff j f hj
    rw [ho, hk, ht] at h1
    have hc' : (((Value.agg #[c0, c1, c2, c3, c4]).cells.toList).drop j).take 1 = [c] := hc
    rw [hc'] at h1
    have hj5 : j < 5 := by
      rcases Nat.lt_or_ge j 5 with h | h
      · exact h
      · rw [List.drop_eq_nil_of_le (by simpa using h)] at hc
        cases hc
    obtain ⟨y, hy'⟩ : ∃ y, ys[j]? = some y := ⟨_, List.getElem?_eq_getElem (by simp at hyl; omega)⟩
    rw [hy'] at h1
    obtain ⟨z, e, _⟩ := DataW.trod_int hz h1
    injection e with e
    exact ⟨z, e⟩
  obtain ⟨a, rfl⟩ := part 0 c0 f0 rfl rfl h0
  obtain ⟨b, rfl⟩ := part 1 c1 f1 rfl rfl h1
  obtain ⟨s, rfl⟩ := part 2 c2 f2 rfl rfl h2
  obtain ⟨u, rfl⟩ := part 3 c3 f3 rfl rfl h3
  obtain ⟨m, rfl⟩ := part 4 c4 f4 rfl rfl h4
  exact ⟨a, b, s, u, m, rfl⟩
theorem open_round {W : World} {v : Value} {d : DataW H} {p : List MemPlace} {r : Reach} {b0 : Nat} (hv : Value.okWide Try.prog W r b0 39 v) (h : DataW.Trod enc Try.prog W 0 (fun _ => true) true 39 v d p) :
    ∃ a b s u m : Int, v = .agg #[iv a, iv b, iv s, iv u, iv m] :=
  open_five Try.underlying39 (by kernel_rfl) (by kernel_rfl) rfl rfl rfl rfl rfl Try.underlying3 hv h
end
end Go.Proofs.Ytndkgmgkbedepaa
