/- Layer 14: the closed example. Conditions: none. -/
import Derived.Test.YtbgfmfgffooniaaS5
namespace Go.Sx
open Go.Proofs
theorem Tab.lit {h : Hp} {b ty size n : Nat} {cs : List Value} {rows : List (List Value)} (hb : h b = some (.cells cs.toArray ty (0, 0))) (hr : rows.flatten = cs) (hw : ∀ r ∈ rows, r.length = size) (hn : rows.length = n) : Tab h size (some ⟨b, 0, none⟩) n rows := by
  refine ⟨hn, hw, fun _ => ⟨_, rfl⟩, fun g hg i r hi j v hv => ?_⟩
  injection hg with hg
  subst hg
  have := flat_at _ hw i j r v hi hv
  rw [add_lit, Nat.zero_add, Hp.cell?]
  simp only [hb, Option.isSome_none, Bool.false_eq_true, if_false]
  rw [← hr]
  simpa using this
theorem Hp.le.trans' {a b c : Hp} (x : a.le b) (y : b.le c) : a.le c := Hp.le_trans x y
theorem put_at {h : Hp} {b : Nat} {o : Obj} : (h.put b o) b = some o := Hp.put_same _ _ _
theorem awake15 (h : Hp) : Fn Try.prog 15 #[] h fun r h' => r = .bool true ∧ h.le h' := by
  refine Fn.intro (args := []) mix14 Try.func15 rfl (by decide) Try.ntmps15 rfl (low15 rfl) rfl ?_
  conv => whnf
  refine .mk fun b1 hb1 => ?_
  conv => whnf
  refine .mk fun b2 hb2 => ?_
  conv => whnf
  have h12 : b1 ≠ b2 := fun e => by subst e; rw [Hp.put_same] at hb2; cases hb2
  refine .done (.mk _ (confirm11 1 _ _ 1 1 1 1 [⟨0, 0, 1, 1, 0⟩] [⟨0, 0, 0⟩] _ (.lit (by rw [Hp.put_ne _ _ h12]; exact put_at) rfl (arcs_wid _) rfl) (.lit put_at rfl (blks_wid _) rfl) (by decide) (by decide)) ?_)
  rintro _ h1 ⟨rfl, hle1⟩
  rw [show conf 1 [⟨0, 0, 1, 1, 0⟩] [⟨0, 0, 0⟩] = 0 by decide]
  conv => whnf
  refine .mk fun b3 hb3 => ?_
  conv => whnf
  refine .mk fun b4 hb4 => ?_
  conv => whnf
  have h34 : b3 ≠ b4 := fun e => by subst e; rw [Hp.put_same] at hb4; cases hb4
  refine .done (.mk _ (confirm11 1 _ _ 1 1 1 1 [⟨0, 0, 1, 1, 1⟩] [⟨0, 0, 0⟩] _ (.lit (by rw [Hp.put_ne _ _ h34]; exact put_at) rfl (arcs_wid _) rfl) (.lit put_at rfl (blks_wid _) rfl) (by decide) (by decide)) ?_)
  rintro _ h2 ⟨rfl, hle2⟩
  rw [show conf 1 [⟨0, 0, 1, 1, 1⟩] [⟨0, 0, 0⟩] = 141 by decide]
  have hle2' := ((Hp.le_put hb3).trans' (Hp.le_put hb4)).trans' hle2
  have hle1' := ((Hp.le_put hb1).trans' (Hp.le_put hb2)).trans' hle1
  have hat := hle2' _ _ (hle1 _ _ ((Hp.put_ne _ _ h12).trans put_at))
  conv => whnf
  refine .done (.mk _ (confirm11 1 _ _ 1 0 1 0 [⟨0, 0, 1, 1, 0⟩] [] _ (.lit hat rfl (arcs_wid _) rfl) (Tab.nil _ _ _) (by decide) (by decide)) ?_)
  rintro _ h3 ⟨rfl, hle3⟩
  rw [show conf 1 [⟨0, 0, 1, 1, 0⟩] [] = 140 by decide]
  conv => whnf
  exact .done ⟨rfl, (hle1'.trans' hle2').trans' hle3⟩
end Go.Sx
