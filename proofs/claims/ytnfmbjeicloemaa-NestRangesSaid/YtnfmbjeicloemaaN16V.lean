/- Two lists that share no memory. Conditions: none. -/
import Derived.Test.YtnfmbjeicloemaaN16U
namespace Go.Sx
open Go.Proofs
def Hp.blk (h : Hp) (D : Option Addr) : Hp := fun j => match D with
  | some g => if j = g.block then h j else none
  | none => none
theorem Hp.blk_le (h : Hp) (D : Option Addr) : (h.blk D).le h := fun j o e => by
  unfold Hp.blk at e
  split at e
  · split at e
    · exact e
    · cases e
  · cases e
theorem Hp.blk_in {h : Hp} {D : Option Addr} {j : Nat} (e : h.blk D j ≠ none) : ∃ g, D = some g ∧ j = g.block := by
  unfold Hp.blk at e
  split at e
  · rename_i g
    split at e
    · rename_i hj; exact ⟨g, rfl, hj⟩
    · exact absurd rfl e
  · exact absurd rfl e
theorem RowAt.blk {h : Hp} {ety size n cap : Nat} {A : Option Addr} {xs : List Value} (x : RowAt h ety size A n cap xs) : RowAt (h.blk A) ety size A n cap xs := by
  obtain ⟨h1, h2⟩ := x
  refine ⟨h1, h2.imp id fun ⟨g, cur, e1, e2, e3⟩ => ⟨g, cur, e1, ?_, e3⟩⟩
  subst e1
  simp only [Hp.blk, if_true]
  exact e2
theorem delA_at {h : Hp} {D : Option Addr} {g : Addr} (e : D = some g) : delA h D g.block = none := by subst e; exact Hp.del_same _ _
theorem delA_off {h : Hp} {D : Option Addr} {j : Nat} (hj : ∀ g, D = some g → j ≠ g.block) : delA h D j = h j := by
  cases D with
  | none => rfl
  | some g => exact Hp.del_ne h (hj g rfl)
theorem apart2 {hB h : Hp} {D E : Option Addr} {n m c d bo : Nat} {p q : List Int} (hle : hB.le h) (hD : RowAt h 3 1 D n c (p.map iv)) (hE : RowAt h 3 1 E m d (q.map iv)) (fD : ∀ g, D = some g → hB g.block = none) (fE : ∀ g, E = some g → hB g.block = none)
    (hne : ∀ g g', D = some g → E = some g' → g.block ≠ g'.block) (hbo : h bo = none) (hn : n ≤ 1000000) (hm : m ≤ 1000000) :
    Fn Try.prog 25 #[.slice (some ⟨bo, 0, none⟩) 2 2] (h.put bo (.cells #[.slice D n c, .slice E m d] 35 (0, 0))) fun v h' => v = .bool true ∧ hB.le h' := by
  have hl : h.le (h.put bo (.cells #[.slice D n c, .slice E m d] 35 (0, 0))) := Hp.le_put hbo
  have bD : ∀ g, D = some g → bo ≠ g.block := fun g e q => by have := hD.mem e; rw [← q] at this; exact this hbo
  have bE : ∀ g, E = some g → bo ≠ g.block := fun g e q => by have := hE.mem e; rw [← q] at this; exact this hbo
  refine (apart25 (B := delA (delA (h.put bo (.cells #[.slice D n c, .slice E m d] 35 (0, 0))) D) E) (m := 2) (c0 := 2) (A0 := some ⟨bo, 0, none⟩) (X := fun i => if i = 0 then (h.put bo (.cells #[.slice D n c, .slice E m d] 35 (0, 0))).blk D else (h.put bo (.cells #[.slice D n c, .slice E m d] 35 (0, 0))).blk E) (fun i => if i = 0 then (D, n, c) else (E, m, d))
    ⟨Hp.le_trans (delA_le _ _) (delA_le _ _), fun i _ => ?_, fun i _ j hj => ?_, fun i k _ _ hik j hj => ?_⟩ (Tab.lit (cs := [.slice D n c, .slice E m d]) (ty := 35) ?_ rfl (fun r hr => by obtain ⟨i, _, rfl⟩ := List.mem_map.1 hr; rfl) rfl) (fun i _ => ?_) (by decide) (fun i _ => ?_)).mono fun v h' ⟨e1, e2⟩ => ⟨e1, Hp.le_trans (delA_none (delA_none (Hp.le_trans hle hl) fD) fE) e2⟩
  · split
    · exact Hp.blk_le _ _
    · exact Hp.blk_le _ _
  · split at hj
    · obtain ⟨g, e, rfl⟩ := Hp.blk_in hj
      rw [delA_off fun g' e' => hne g g' e e']
      exact delA_at e
    · obtain ⟨g, e, rfl⟩ := Hp.blk_in hj
      exact delA_at e
  · by_cases h0 : i = 0
    · rw [if_pos h0] at hj
      rw [if_neg (by omega)]
      obtain ⟨g, e, rfl⟩ := Hp.blk_in hj
      cases q : (h.put bo (.cells #[.slice D n c, .slice E m d] 35 (0, 0))).blk E g.block with
      | none => rfl
      | some o =>
        obtain ⟨g', e', e2⟩ := Hp.blk_in (D := E) (j := g.block) (by rw [q]; simp)
        exact absurd e2 (hne g g' e e')
    · by_cases h1 : k = 0
      · rw [if_neg h0] at hj
        rw [if_pos h1]
        obtain ⟨g', e', rfl⟩ := Hp.blk_in hj
        cases q : (h.put bo (.cells #[.slice D n c, .slice E m d] 35 (0, 0))).blk D g'.block with
        | none => rfl
        | some o =>
          obtain ⟨g, e, e2⟩ := Hp.blk_in (D := D) (j := g'.block) (by rw [q]; simp)
          exact absurd e2.symm (hne g g' e e')
      · omega
  · rw [delA_off bE, delA_off bD]
    exact Hp.put_same _ _ _
  · by_cases h0 : i = 0
    · simp only [if_pos h0]
      exact ⟨p, by have := hD.1; simp at this; omega, (hD.mono hl).blk⟩
    · simp only [if_neg h0]
      exact ⟨q, by have := hE.1; simp at this; omega, (hE.mono hl).blk⟩
  · by_cases h0 : i = 0
    · simp only [if_pos h0]; exact hn
    · simp only [if_neg h0]; exact hm
end Go.Sx
