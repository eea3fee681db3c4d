/- The arguments of layer 19's laws, opened. Conditions: none. -/
import Derived.Test.YthibgmkobcbhhaaGreatM19V
import Derived.Test.YthibgmkobcbhhaaGreatE2
import Derived.Test.YthibgmkobcbhhaaGreatRows
namespace Go.Proofs.YthibgmkobcbhhaaGreat
open Go.Sx Go.RowKit Go.ChangeShapes Go.WideShapes
set_option maxRecDepth 100000
theorem Tryz.own : ownKnob Tryz.prog.godebug = none := by kernel_rfl
theorem Tryz.laidOut : laidOutB Tryz.prog = true := by kernel_rfl
def mkArc (z : Nat → Int) : Arc := ⟨z 0, z 1, z 2, z 3, z 4⟩
theorem mkArc_at (z : Nat → Int) (j : Nat) (u : Value) (h : (mkArc z).cells[j]? = some u) : u = iv (z j) := by
  match j, h with
  | 0, h => injection h with h; exact h.symm
  | 1, h => injection h with h; exact h.symm
  | 2, h => injection h with h; exact h.symm
  | 3, h => injection h with h; exact h.symm
  | 4, h => injection h with h; exact h.symm
  | j + 5, h => cases h
theorem bytes47 : Tryz.prog.bytesOf 47 = 40 := by kernel_rfl
theorem bytes3 : Tryz.prog.bytesOf 3 = 8 := by kernel_rfl

section
variable {H : Type} {enc : TypeId × Value → H}
theorem open_arcs {W : World} {fuel : Nat} {v : Value} {x : DataW H × List MemPlace} (h : DataW.trod enc Tryz.prog W 0 (fun _ => true) true fuel 22 [v] = some x) :
    ∃ (A : Option Addr) (n cap : Nat) (l : List Arc), v = .slice A n cap ∧ Tab (Hp.of W) 5 A n (l.map Arc.cells) ∧ n ≤ cap ∧ ∀ B, (∀ k ∈ x.1.weights Tryz.prog 22, k ≤ B) → n * 40 ≤ B := by
  obtain ⟨A, n, cap, l, h1, h2, h3, el, sp, h4⟩ := open_rows (cells := Arc.cells) (size := 5) mkArc mkArc_at (fun _ => rfl) Tryz.underlying22 Tryz.underlying47 (by kernel_rfl) (by kernel_rfl) rfl (by kernel_rfl) h
  refine ⟨A, n, cap, l, h1, h2, h3, fun B hB => ?_⟩
  rcases h4 with ⟨h4, h5⟩ | ⟨h4, h5⟩
  · have := hB ((el.length + sp.length) * 40) (by rw [h4]; simp [DataW.weights, Tryz.underlying22, bytes47])
    exact Nat.le_trans (Nat.mul_le_mul_right 40 (by omega)) this
  · omega
theorem open_net {W : World} {v : Value} {d : DataW H} {p : List MemPlace} {r : Reach} {b0 : Nat} (hv : Value.okWide Tryz.prog W r b0 24 v) (h : DataW.Trod enc Tryz.prog W 0 (fun _ => true) true 24 v d p) :
    ∃ (N : Int) (A : Option Addr) (n cap : Nat) (l : List Arc), v = netV N A n cap ∧ Tab (Hp.of W) 5 A n (l.map Arc.cells) ∧ n ≤ cap ∧ ∀ B, (∀ k ∈ d.weights Tryz.prog 24, k ≤ B) → n * 40 ≤ B := by
  obtain ⟨v0, v1, y0, y1, n, rfl, rfl, rfl, h0, h1⟩ := Joins.open_agg2 Tryz.underlying24 (by kernel_rfl) (by kernel_rfl) hv h
  obtain ⟨N, e0, _, _⟩ := DataW.trod_int Tryz.underlying3 h0
  injection e0 with e0
  obtain ⟨A, n, cap, l, h2, h3, hc, h4⟩ := open_arcs h1
  subst e0; subst h2
  refine ⟨N, A, n, cap, l, rfl, h3, hc, fun B hB => h4 B fun k hk => hB k ?_⟩
  simp [DataW.weights, DataW.weightsEach, Tryz.underlying24]
  exact .inr hk
theorem open_nums {W : World} {v : Value} {d : DataW H} {p : List MemPlace} {r : Reach} {b0 : Nat} (hv : Value.okWide Tryz.prog W r b0 25 v) (h : DataW.Trod enc Tryz.prog W 0 (fun _ => true) true 25 v d p) :
    ∃ (A : Option Addr) (n cap : Nat) (l : List Int), v = .slice A n cap ∧ Tab (Hp.of W) 1 A n (l.map fun z => [iv z]) ∧ n ≤ cap ∧ ∀ B, (∀ k ∈ d.weights Tryz.prog 25, k ≤ B) → n * 8 ≤ B := by
  obtain ⟨fuel, h⟩ := h
  obtain ⟨a, n, cap, rfl⟩ := okWide_slice Tryz.underlying25 hv
  obtain ⟨A, n, cap, l, h1, h2, h3, el, sp, h4⟩ := open_nums_ Tryz.underlying25 Tryz.underlying3 (by kernel_rfl) (x := (d, p)) h
  refine ⟨A, n, cap, l, h1, h2, h3, fun B hB => ?_⟩
  rcases h4 with ⟨h4, h5⟩ | ⟨h4, h5⟩
  · have h4 : d = .slice el sp := h4
    have := hB ((el.length + sp.length) * 8) (by rw [h4]; simp [DataW.weights, Tryz.underlying25, bytes3])
    exact Nat.le_trans (Nat.mul_le_mul_right 8 (by omega)) this
  · omega
theorem each_le {P : Program} {ts : List TypeId} {ds : List (DataW H)} {j : Nat} {t : TypeId} {d : DataW H} (h : (DataW.weightsEach P ts ds).all (fun k => decide (k ≤ reachBytes)) = true) (ht : ts[j]? = some t) (hd : ds[j]? = some d) : ∀ k ∈ d.weights P t, k ≤ 140737488355328 := fun k hk => by
  have := List.all_eq_true.1 h k (DataW.weights_mem_each ht hd k hk)
  have := of_decide_eq_true this
  simp only [reachBytes] at this
  omega
end
end Go.Proofs.YthibgmkobcbhhaaGreat
