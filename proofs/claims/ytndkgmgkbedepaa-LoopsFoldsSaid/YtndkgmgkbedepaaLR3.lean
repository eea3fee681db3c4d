/- LoopsFolds: the law's own function answers true. Conditions: none. -/
import Derived.Test.YtndkgmgkbedepaaM17Q
namespace Go.Sx
open Go.Proofs
set_option maxRecDepth 100000
theorem lawR3 (w : Int) (l : Lo) (A : Option Addr) (m cap : Nat) (h : Hp) (hs : SAt h A m l) (hca : m ≤ cap) : Fn Try.prog 3 #[iv w, .slice A m cap] h fun v h' => v = .bool true ∧ h.le h' := by
  refine Fn.intro (args := [iv w, .slice A m cap]) mix16 Try.func3 rfl (by decide) Try.ntmps3 rfl (low3 rfl) rfl ?_
  conv => whnf
  refine .done (.mk _ (heavy14 l A m cap h hs) ?_)
  rintro _ h1 ⟨rfl, hv, rfl, hc⟩
  cases hv with
  | true =>
    conv => whnf
    exact .done ⟨rfl, Hp.le_refl _⟩
  | false =>
    have hc := Nat.le_trans (hc rfl) (by decide : 65536 ≤ 200000)
    conv => whnf
    refine .done (.mk _ (lentX _ l (Nat.lt_succ_self _) hc A m cap h1 hs) ?_)
    rintro _ h2 ⟨l2, A2, c2, t2, rfl, m2, f2⟩
    have m2 := m2.smt.mono (Hp.sub_le _ _)
    have hc2 : t2.cnt ≤ 200000 := by rw [← t2.fo_cnt, f2, l.fo_cnt]; exact hc
    have hcc := m2.cap
    conv => whnf
    refine .done (.mk _ (fold11 w t2 hc2 A2 m c2 h2 m2.sat (Nat.le_of_lt hcc)) ?_)
    rintro _ h3 ⟨l3, Aa, ma, ca, la, rfl, ua, fa⟩
    rw [f2] at fa ⊢
    conv => whnf
    refine .done (.mk _ (fold11 w t2 hc2 A2 m c2 h3 (m2.mono l3).sat (Nat.le_of_lt hcc)) ?_)
    rintro _ h4 ⟨l4, Ab, mb, cb, lb, rfl, ub, fb⟩
    rw [f2] at fb ⊢
    have l24 := Hp.le_trans l3 l4
    have l14 := Hp.le_trans l2 l24
    conv => whnf
    refine .done (.mk _ (fold12 w l hc A m cap h4 (hs.mono l14) hca) ?_)
    rintro _ h5 ⟨l5, Ac, mc, cc, lc, rfl, sc, fc⟩
    have hcn := foldR_cnt w l.fo
    have lcnt := l.fo_cnt
    have cla : la.cnt ≤ 200000 := by rw [← la.fo_cnt, fa]; omega
    have clb : lb.cnt ≤ 200000 := by rw [← lb.fo_cnt, fb]; omega
    have sa := ua.sat.mono (Hp.le_trans (Hp.sub_le _ _) (Hp.le_trans l4 l5))
    have sb := ub.sat.mono (Hp.le_trans (Hp.sub_le _ _) l5)
    conv => whnf
    refine br_dec (fun q => absurd rfl q) (fun _ => ?_)
    conv => whnf
    refine br_dec (fun q => absurd rfl q) (fun _ => ?_)
    conv => whnf
    refine .done (.mk _ (sameLoops13 _ la (Nat.lt_succ_self _) cla lc Aa Ac ma mc ca cc h5 sa sc) ?_)
    rintro _ _ ⟨rfl, rfl⟩
    rw [decide_eq_true (by rw [fa, fc])]
    conv => whnf
    refine .done (.mk _ (sameLoops13 _ lb (Nat.lt_succ_self _) clb lc Ab Ac mb mc cb cc _ sb sc) ?_)
    rintro _ _ ⟨rfl, rfl⟩
    rw [decide_eq_true (by rw [fb, fc])]
    conv => whnf
    refine .done (.mk _ (kept19 _ l (Nat.lt_succ_self _) hc t2 A2 A m c2 cap _ f2 (m2.mono (Hp.le_trans l24 l5)) (hs.mono (Hp.le_trans l14 l5))) ?_)
    rintro _ h5 ⟨rfl, rfl⟩
    conv => whnf
    refine .done (.mk _ (awake15 _) ?_)
    rintro _ h6 ⟨rfl, l6⟩
    conv => whnf
    refine .done (.mk _ (apartTwo ua ub l3 l4 (Hp.le_trans l5 l6) cla clb) ?_)
    rintro _ h7 ⟨rfl, l7⟩
    conv => whnf
    refine .done (.mk _ (kept19 _ l (Nat.lt_succ_self _) hc t2 A2 A m c2 cap h7 f2 (m2.mono l7) (hs.mono (Hp.le_trans l2 l7))) ?_)
    rintro _ h8 ⟨rfl, rfl⟩
    conv => whnf
    exact .done ⟨rfl, Hp.le_trans l2 l7⟩
end Go.Sx
