/- LoopsCompresses: the law's own function answers true. Conditions: none. -/
import Derived.Test.YtndkgmgkbedepaaM17R
namespace Go.Sx
open Go.Proofs
set_option maxRecDepth 100000
theorem lawR4 (D : Option Addr) (r cap2 : Nat) (zs : List Int) (h : Hp) (hz : Tab h 1 D r (zs.map fun z => [iv z])) (hr : r * 8 ≤ 140737488355328) : Fn Try.prog 4 #[.slice D r cap2] h fun v h' => v = .bool true ∧ h.le h' := by
  refine Fn.intro (args := [.slice D r cap2]) mix16 Try.func4 rfl (by decide) Try.ntmps4 rfl (low4 rfl) rfl ?_
  conv => whnf
  refine .done (.mk _ (lent28 D r cap2 zs h hz hr) ?_)
  rintro _ h2 ⟨l2, A2, rfl, m2⟩
  conv => whnf
  refine .done (.mk _ (compress18 zs A2 r (r + 4) h2 m2.tab) ?_)
  rintro _ h3 ⟨l3, Aa, ma, ca, la, rfl, ua, fa⟩
  conv => whnf
  refine .done (.mk _ (compress18 zs A2 r (r + 4) h3 (m2.mono l3).tab) ?_)
  rintro _ h4 ⟨l4, Ab, mb, cb, lb, rfl, ub, fb⟩
  have l24 := Hp.le_trans l3 l4
  have l14 := Hp.le_trans l2 l24
  conv => whnf
  refine .done (.mk _ (compress19 zs D r cap2 h4 (hz.mono l14)) ?_)
  rintro _ h5 ⟨l5, Ac, mc, cc, lc, rfl, sc, fc⟩
  have hcn := compR_cnt zs
  have cla : la.cnt ≤ 200000 := by rw [lo_cnt, fa]; omega
  have clb : lb.cnt ≤ 200000 := by rw [lo_cnt, fb]; omega
  have sa := ua.sat.mono (Hp.le_trans (Hp.sub_le _ _) (Hp.le_trans l4 l5))
  have sb := ub.sat.mono (Hp.le_trans (Hp.sub_le _ _) l5)
  conv => whnf
  refine br_dec (fun q => absurd rfl q) (fun _ => ?_)
  conv => whnf
  refine br_dec (fun q => absurd rfl q) (fun _ => ?_)
  conv => whnf
  refine .done (.mk _ (sameLoops13 _ la (Nat.lt_succ_self _) cla lc Aa Ac ma mc ca cc h5 sa sc) ?_)
  rintro _ _ ⟨rfl, rfl⟩
  rw [decide_eq_true (els_inj (by rw [fa, fc]))]
  conv => whnf
  refine .done (.mk _ (sameLoops13 _ lb (Nat.lt_succ_self _) clb lc Ab Ac mb mc cb cc _ sb sc) ?_)
  rintro _ h5 ⟨rfl, rfl⟩
  rw [decide_eq_true (els_inj (by rw [fb, fc]))]
  conv => whnf
  refine .done (.mk _ (awake15 _) ?_)
  rintro _ h6 ⟨rfl, l6⟩
  conv => whnf
  refine .done (.mk _ (apartTwo ua ub l3 l4 (Hp.le_trans l5 l6) cla clb) ?_)
  rintro _ h7 ⟨rfl, l7⟩
  conv => whnf
  refine .done (.mk _ (kept32 A2 D r cap2 zs h7 (m2.mono l7) (hz.mono (Hp.le_trans l2 l7)) hr) ?_)
  rintro _ h8 ⟨rfl, rfl⟩
  conv => whnf
  exact .done ⟨rfl, Hp.le_trans l2 l7⟩
end Go.Sx
