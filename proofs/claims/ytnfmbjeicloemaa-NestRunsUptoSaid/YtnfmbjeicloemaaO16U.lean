/- A list of numbers as an argument, and its bulk. Conditions: none. -/
import Derived.Test.YtnfmbjeicloemaaO16
import Derived.JoinedCond
namespace Go.Proofs.Ytnfmbjeicloemaa
open Go.Sx Go.RowKit Go.ChangeShapes Go.WideShapes
section
variable {H : Type} {enc : TypeId × Value → H}
theorem bulk_one (d : DataW H) : 1 ≤ Rows.uptoBulk d := by
  cases d with
  | lit l => cases l <;> simp [Rows.uptoBulk]
  | _ => simp [Rows.uptoBulk]
theorem bulk_len (l : List (DataW H)) : l.length ≤ Rows.uptoBulkAll l := by
  induction l with
  | nil => simp [Rows.uptoBulkAll]
  | cons x r ih => have := bulk_one x; simp only [Rows.uptoBulkAll, List.length_cons]; omega
theorem open_nums_bulk {W : World} {v : Value} {d : DataW H} {p : List MemPlace} {r : Reach} {b0 : Nat} (hv : Value.okWide Try.prog W r b0 35 v) (h : DataW.Trod enc Try.prog W 0 (fun _ => true) true 35 v d p) :
    ∃ (A : Option Addr) (n cap : Nat) (l : List Int), v = .slice A n cap ∧ Tab (Hp.of W) 1 A n (l.map fun z => [iv z]) ∧ n ≤ Rows.uptoBulk d := by
  obtain ⟨fuel, h⟩ := h
  obtain ⟨a, n, cap, rfl⟩ := okWide_slice Try.underlying35 hv
  obtain ⟨A, n, cap, l, h1, h2, h3, el, sp, h4⟩ := open_nums_ Try.underlying35 Try.underlying3 (by kernel_rfl) (x := (d, p)) h
  refine ⟨A, n, cap, l, h1, h2, ?_⟩
  rcases h4 with ⟨h4, h5⟩ | ⟨h4, h5⟩
  · have h4 : d = .slice el sp := h4
    subst h4
    have := bulk_len el
    simp only [Rows.uptoBulk]
    omega
  · omega
end
end Go.Proofs.Ytnfmbjeicloemaa
