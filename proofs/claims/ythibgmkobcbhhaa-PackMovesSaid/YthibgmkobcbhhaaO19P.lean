/- The arguments of PackMeets and PackMoves, opened. Conditions: none. -/
import Derived.Test.YthibgmkobcbhhaaO19
namespace Go.Proofs.Ythibgmkobcbhhaa
open Go.Sx Go.RowKit Go.ChangeShapes Go.WideShapes
set_option maxRecDepth 100000
section
variable {H : Type} {enc : TypeId × Value → H}
theorem open_pair {W : World} {v : Value} {d : DataW H} {p : List MemPlace} {r : Reach} {b0 : Nat} (hv : Value.okWide Try.prog W r b0 56 v) (h : DataW.Trod enc Try.prog W 0 (fun _ => true) true 56 v d p) :
    ∃ a b : Int, v = .agg #[iv a, iv b] := by
  obtain ⟨v0, v1, y0, y1, n, rfl, rfl, rfl, h0, h1⟩ := Joins.open_agg2 Try.underlying56 (by kernel_rfl) (by kernel_rfl) hv h
  obtain ⟨a, e0, _, _⟩ := DataW.trod_int Try.underlying3 h0
  obtain ⟨b, e1, _, _⟩ := DataW.trod_int Try.underlying3 h1
  injection e0 with e0
  injection e1 with e1
  subst e0; subst e1
  exact ⟨a, b, rfl⟩
theorem bytes50 : Try.prog.bytesOf 50 = 16 := by kernel_rfl
def mkReg (z : Nat → Int) : Pr := (z 0, z 1)
theorem mkReg_at (z : Nat → Int) (j : Nat) (u : Value) (h : (pc (mkReg z))[j]? = some u) : u = iv (z j) := by
  match j, h with
  | 0, h => injection h with h; exact h.symm
  | 1, h => injection h with h; exact h.symm
  | j + 2, h => cases h
theorem open_regs {W : World} {fuel : Nat} {v : Value} {x : DataW H × List MemPlace} (h : DataW.trod enc Try.prog W 0 (fun _ => true) true fuel 39 [v] = some x) :
    ∃ (A : Option Addr) (n cap : Nat) (l : List Pr), v = .slice A n cap ∧ Tab (Hp.of W) 2 A n (l.map pc) ∧ n ≤ cap ∧ ∀ B, (∀ k ∈ x.1.weights Try.prog 39, k ≤ B) → n * 16 ≤ B := by
  obtain ⟨A, n, cap, l, h1, h2, h3, el, sp, h4⟩ := open_rows (cells := pc) (size := 2) mkReg mkReg_at (fun _ => rfl) Try.underlying39 Try.underlying50 (by kernel_rfl) (by kernel_rfl) rfl (by kernel_rfl) h
  refine ⟨A, n, cap, l, h1, h2, h3, fun B hB => ?_⟩
  rcases h4 with ⟨h4, h5⟩ | ⟨h4, h5⟩
  · have := hB ((el.length + sp.length) * 16) (by rw [h4]; simp [DataW.weights, Try.underlying39, bytes50])
    exact Nat.le_trans (Nat.mul_le_mul_right 16 (by omega)) this
  · omega
theorem open_move {W : World} {v : Value} {d : DataW H} {p : List MemPlace} {r : Reach} {b0 : Nat} (hv : Value.okWide Try.prog W r b0 59 v) (h : DataW.Trod enc Try.prog W 0 (fun _ => true) true 59 v d p) :
    ∃ (A : Option Addr) (n cap : Nat) (l : List Pr) (t y : Int), v = .agg #[.slice A n cap, iv t, iv y] ∧ Tab (Hp.of W) 2 A n (l.map pc) ∧ n ≤ cap ∧ ∀ B, (∀ k ∈ d.weights Try.prog 59, k ≤ B) → n * 16 ≤ B := by
  obtain ⟨cs, rfl, hsz⟩ := okWide_struct Try.underlying59 hv
  have hsz : cs.size = 3 := hsz.trans (by kernel_rfl)
  obtain ⟨c0, c1, c2, rfl⟩ := Joins.array3 hsz
  obtain ⟨fuel, hf⟩ := h
  obtain ⟨y0, y1, n, hx, _, h0, h1⟩ := trod_struct2 Try.underlying59 hf
  have k41 : Try.prog.cellsOf 41 = 2 := by kernel_rfl
  have k39 : Try.prog.cellsOf 39 = 1 := by kernel_rfl
  have k3 : Try.prog.cellsOf 3 = 1 := by kernel_rfl
  simp [Value.cells, k41] at h0
  simp [Value.cells, k3] at h1
  obtain ⟨z0, z1, n2, hx2, _, g0, g1⟩ := trod_struct2 Try.underlying41 h0
  simp [k39] at g0
  simp [k3] at g1
  obtain ⟨t, e1, _, _⟩ := DataW.trod_int Try.underlying3 g1
  obtain ⟨y, e2, _, _⟩ := DataW.trod_int Try.underlying3 h1
  injection e1 with e1
  injection e2 with e2
  obtain ⟨A, m, cap, l, q1, q2, q3, q4⟩ := open_regs g0
  subst e1; subst e2; subst q1
  refine ⟨A, m, cap, l, t, y, rfl, q2, q3, fun B hB => q4 B fun k hk => hB k ?_⟩
  simp only [Prod.mk.injEq] at hx
  rw [hx.1]
  subst hx2
  simp [DataW.weights, DataW.weightsEach, Try.underlying59, Try.underlying41]
  exact .inl hk
end
end Go.Proofs.Ythibgmkobcbhhaa
