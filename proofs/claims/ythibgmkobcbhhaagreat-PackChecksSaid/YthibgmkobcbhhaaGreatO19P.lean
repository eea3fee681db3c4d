/- The arguments of PackChecks, opened. Conditions: none. -/
import Derived.Test.YthibgmkobcbhhaaGreatO19
namespace Go.Proofs.YthibgmkobcbhhaaGreat
open Go.Sx Go.RowKit Go.ChangeShapes Go.WideShapes
set_option maxRecDepth 100000
section
variable {H : Type} {enc : TypeId × Value → H}
theorem bytes37 : Tryz.prog.bytesOf 37 = 16 := by kernel_rfl
def mkReg (z : Nat → Int) : Pr := (z 0, z 1)
theorem mkReg_at (z : Nat → Int) (j : Nat) (u : Value) (h : (pc (mkReg z))[j]? = some u) : u = iv (z j) := by
  match j, h with
  | 0, h => injection h with h; exact h.symm
  | 1, h => injection h with h; exact h.symm
  | j + 2, h => cases h
theorem open_regs {W : World} {fuel : Nat} {v : Value} {x : DataW H × List MemPlace} (h : DataW.trod enc Tryz.prog W 0 (fun _ => true) true fuel 28 [v] = some x) :
    ∃ (A : Option Addr) (n cap : Nat) (l : List Pr), v = .slice A n cap ∧ Tab (Hp.of W) 2 A n (l.map pc) ∧ n ≤ cap ∧ ∀ B, (∀ k ∈ x.1.weights Tryz.prog 28, k ≤ B) → n * 16 ≤ B := by
  obtain ⟨A, n, cap, l, h1, h2, h3, el, sp, h4⟩ := open_rows (cells := pc) (size := 2) mkReg mkReg_at (fun _ => rfl) Tryz.underlying28 Tryz.underlying37 (by kernel_rfl) (by kernel_rfl) rfl (by kernel_rfl) h
  refine ⟨A, n, cap, l, h1, h2, h3, fun B hB => ?_⟩
  rcases h4 with ⟨h4, h5⟩ | ⟨h4, h5⟩
  · have := hB ((el.length + sp.length) * 16) (by rw [h4]; simp [DataW.weights, Tryz.underlying28, bytes37])
    exact Nat.le_trans (Nat.mul_le_mul_right 16 (by omega)) this
  · omega
theorem open_plan {W : World} {v : Value} {d : DataW H} {p : List MemPlace} {r : Reach} {b0 : Nat} (hv : Value.okWide Tryz.prog W r b0 30 v) (h : DataW.Trod enc Tryz.prog W 0 (fun _ => true) true 30 v d p) :
    ∃ (A : Option Addr) (n cap : Nat) (l : List Pr) (t : Int), v = .agg #[.slice A n cap, iv t] ∧ Tab (Hp.of W) 2 A n (l.map pc) ∧ n ≤ cap ∧ ∀ B, (∀ k ∈ d.weights Tryz.prog 30, k ≤ B) → n * 16 ≤ B := by
  obtain ⟨v0, v1, y0, y1, n, rfl, rfl, rfl, h0, h1⟩ := Joins.open_agg2 Tryz.underlying30 (by kernel_rfl) (by kernel_rfl) hv h
  obtain ⟨t, e0, _, _⟩ := DataW.trod_int Tryz.underlying3 h1
  injection e0 with e0
  obtain ⟨A, n, cap, l, h2, h3, hc, h4⟩ := open_regs h0
  subst e0; subst h2
  refine ⟨A, n, cap, l, t, rfl, h3, hc, fun B hB => h4 B fun k hk => hB k ?_⟩
  simp [DataW.weights, DataW.weightsEach, Tryz.underlying30]
  exact .inl hk
end
end Go.Proofs.YthibgmkobcbhhaaGreat
