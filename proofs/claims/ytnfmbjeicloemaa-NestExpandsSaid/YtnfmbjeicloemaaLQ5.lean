/- NestExpands: the law's own function answers true. Conditions: none. -/
import Derived.Test.YtnfmbjeicloemaaN16V
namespace Go.Sx
open Go.Proofs
theorem lawQ5 (l : Lo) (A : Option Addr) (m cap : Nat) (h : Hp) (hs : SAt h A m l) : Fn Try.prog 5 #[.slice A m cap] h fun v h' => v = .bool true ∧ h.le h' := by
  refine Fn.intro (args := [.slice A m cap]) mix16 Try.func5 rfl (by decide) Try.ntmps5 rfl (low5 rfl) rfl ?_
  conv => whnf
  refine .done (.mk _ (heavy14 l A m cap h hs) ?_)
  rintro _ h1 ⟨rfl, hv, rfl, hc⟩
  cases hv with
  | true =>
    conv => whnf
    exact .done ⟨rfl, Hp.le_refl _⟩
  | false =>
    have hc := hc rfl
    have hlen := expF_len l.fo
    conv => whnf
    refine .done (.mk _ (lent15 _ l (Nat.lt_succ_self _) hc A m cap h1 hs) ?_)
    rintro _ h2 ⟨l2, A2, c2, t2, rfl, m2, f2⟩
    have m2 := m2.mono (Hp.sub_le _ _)
    have hc2 : t2.cnt ≤ 65536 := by rw [← t2.fo_cnt, f2, l.fo_cnt]; exact hc
    conv => whnf
    refine .done (.mk _ (expand22 t2 hc2 A2 m c2 h2 m2.sat) ?_)
    rintro _ h3 ⟨l3, D, n, c, rfl, r3, fr3⟩
    rw [f2] at r3 ⊢
    have hn := row_n r3
    conv => whnf
    refine .done (.mk _ (expand22 t2 hc2 A2 m c2 h3 (m2.mono l3).sat) ?_)
    rintro _ h4 ⟨l4, E, k, d, rfl, r4, fr4⟩
    rw [f2] at r4 ⊢
    have hk := row_n r4
    have hne : ∀ g g', D = some g → E = some g' → g.block ≠ g'.block := fun g g' e e' q => r3.mem e (by rw [q]; exact fr4 g' e')
    have l24 := Hp.le_trans l3 l4
    have l14 := Hp.le_trans l2 l24
    have r3 := r3.mono l4
    conv => whnf
    refine .done (.mk _ (expand23 l hc A m cap h4 (hs.mono l14)) ?_)
    rintro _ h5 ⟨F, j, f, rfl, r5⟩
    have l5 := r5.le
    conv => whnf
    refine br_dec (fun q => absurd rfl q) (fun _ => ?_)
    conv => whnf
    refine br_dec (fun q => absurd rfl q) (fun _ => ?_)
    conv => whnf
    refine .done (.mk _ (same24 _ _ _ _ _ _ _ _ _ (r3.mono l5).nums r5.row.nums (by omega)) ?_)
    rintro _ _ ⟨rfl, rfl⟩
    rw [decide_eq_true rfl]
    conv => whnf
    refine .done (.mk _ (same24 _ _ _ _ _ _ _ _ _ (r4.mono l5).nums r5.row.nums (by omega)) ?_)
    rintro _ _ ⟨rfl, rfl⟩
    rw [decide_eq_true rfl]
    conv => whnf
    refine .done (.mk _ (awake16 _) ?_)
    rintro _ h6 ⟨rfl, l6⟩
    have l56 := Hp.le_trans l5 l6
    conv => whnf
    refine .mk fun bo hbo => ?_
    conv => whnf
    refine .done (.mk _ (apart2 (hB := h2) (Hp.le_trans l24 l56) (r3.mono l56) (r4.mono l56) fr3 (fun g e => Hp.none_le l3 (fr4 g e)) hne hbo (by omega) (by omega)) ?_)
    rintro _ h7 ⟨rfl, l7⟩
    conv => whnf
    refine .done (.mk _ (kept19 _ l (Nat.lt_succ_self _) hc t2 A2 A m c2 cap h7 f2 (m2.mono l7) (hs.mono (Hp.le_trans l2 l7))) ?_)
    rintro _ h8 ⟨rfl, rfl⟩
    conv => whnf
    exact .done ⟨rfl, Hp.le_trans l2 l7⟩
end Go.Sx
