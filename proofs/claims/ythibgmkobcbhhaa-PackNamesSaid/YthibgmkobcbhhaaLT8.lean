/- PackNames: the law's own function answers true. Conditions: none. -/
import Derived.Test.YthibgmkobcbhhaaM19N
import Derived.Test.YthibgmkobcbhhaaIr19L
namespace Go.Sx
open Go.Proofs Go.Sort
set_option maxRecDepth 100000
theorem nm0 : checkE 2 exArcs [0, 1, 1] [(0, 1), (2, 2)] 4 = 190 := by decide +kernel
theorem nm1 : checkE 2 exArcs [0, 1, 1] [(0, 2), (2, 2)] 5 = 191 := by decide +kernel
theorem nm2 : checkE 2 exArcs [0, 1, 1] [(0, 2), (1, 2)] 3 = 192 := by decide +kernel
theorem nm3 : checkE 2 exArcs [0, 1, 1] [] 0 = 1 := by decide +kernel
theorem nm4 : checkE 2 exArcs [0, 1, 1] [(0, 2), (1022, 2)] 1024 = 0 := by decide +kernel
theorem nm5 : checkE 2 exArcs [0, 1, 1] [(0, 2), (1023, 2)] 1025 = 5 := by decide +kernel
theorem lawT8 (h : Hp) : Fn Try.prog 8 #[] h fun v h' => v = .bool true ∧ h.le h' := by
  refine Fn.intro (args := []) mix14 Try.func8 rfl (by decide) Try.ntmps8 rfl (low8 rfl) rfl ?_
  conv => whnf
  refine .done (.mk _ (two24 h) ?_)
  rintro _ ha ⟨A0, rfl, la, t0⟩
  conv => whnf
  refine .mk fun b0 hb0 => ?_
  conv => whnf
  refine .done (.mk _ (exPlace2 ha A0 b0 t0 hb0) ?_)
  rintro _ h0 ⟨rfl, l0⟩
  have m0 := Hp.le_trans la l0
  conv => whnf
  refine .done (.mk _ (two24 h0) ?_)
  rintro _ x0 ⟨A1, rfl, la0, t0⟩
  conv => whnf
  refine .done (.mk _ (plan25 0 1 2 2 4 x0) ?_)
  rintro _ y0 ⟨P0, rfl, lb0, u0⟩
  conv => whnf
  refine .mk fun b1 hb1 => ?_
  conv => whnf
  refine .done (.mk _ (exCheck y0 A1 P0 b1 (t0.mono lb0) hb1 2 2 [(0, 1), (2, 2)] 4 u0) ?_)
  rintro _ h1 ⟨rfl, lc0⟩
  rw [nm0]
  have m1 := Hp.le_trans m0 (Hp.le_trans la0 (Hp.le_trans lb0 lc0))
  conv => whnf
  refine .done (.mk _ (two24 h1) ?_)
  rintro _ x1 ⟨A2, rfl, la1, t1⟩
  conv => whnf
  refine .done (.mk _ (plan25 0 2 2 2 5 x1) ?_)
  rintro _ y1 ⟨P1, rfl, lb1, u1⟩
  conv => whnf
  refine .mk fun b2 hb2 => ?_
  conv => whnf
  refine .done (.mk _ (exCheck y1 A2 P1 b2 (t1.mono lb1) hb2 2 2 [(0, 2), (2, 2)] 5 u1) ?_)
  rintro _ h2 ⟨rfl, lc1⟩
  rw [nm1]
  have m2 := Hp.le_trans m1 (Hp.le_trans la1 (Hp.le_trans lb1 lc1))
  conv => whnf
  refine .done (.mk _ (two24 h2) ?_)
  rintro _ x2 ⟨A3, rfl, la2, t2⟩
  conv => whnf
  refine .done (.mk _ (plan25 0 2 1 2 3 x2) ?_)
  rintro _ y2 ⟨P2, rfl, lb2, u2⟩
  conv => whnf
  refine .mk fun b3 hb3 => ?_
  conv => whnf
  refine .done (.mk _ (exCheck y2 A3 P2 b3 (t2.mono lb2) hb3 2 2 [(0, 2), (1, 2)] 3 u2) ?_)
  rintro _ h3 ⟨rfl, lc2⟩
  rw [nm2]
  have m3 := Hp.le_trans m2 (Hp.le_trans la2 (Hp.le_trans lb2 lc2))
  conv => whnf
  refine .done (.mk _ (two24 h3) ?_)
  rintro _ x3 ⟨A4, rfl, la3, t3⟩
  conv => whnf
  refine .mk fun b4 hb4 => ?_
  conv => whnf
  refine .done (.mk _ (exCheck x3 A4 none b4 t3 hb4 0 0 [] 0 (Tab.nil _ _ _)) ?_)
  rintro _ h4 ⟨rfl, lc3⟩
  rw [nm3]
  have m4 := Hp.le_trans m3 (Hp.le_trans la3 lc3)
  conv => whnf
  refine .done (.mk _ (two24 h4) ?_)
  rintro _ x4 ⟨A5, rfl, la4, t4⟩
  conv => whnf
  refine .done (.mk _ (plan25 0 2 1022 2 1024 x4) ?_)
  rintro _ y4 ⟨P4, rfl, lb4, u4⟩
  conv => whnf
  refine .mk fun b5 hb5 => ?_
  conv => whnf
  refine .done (.mk _ (exCheck y4 A5 P4 b5 (t4.mono lb4) hb5 2 2 [(0, 2), (1022, 2)] 1024 u4) ?_)
  rintro _ h5 ⟨rfl, lc4⟩
  rw [nm4]
  have m5 := Hp.le_trans m4 (Hp.le_trans la4 (Hp.le_trans lb4 lc4))
  conv => whnf
  refine .done (.mk _ (two24 h5) ?_)
  rintro _ x5 ⟨A6, rfl, la5, t5⟩
  conv => whnf
  refine .done (.mk _ (plan25 0 2 1023 2 1025 x5) ?_)
  rintro _ y5 ⟨P5, rfl, lb5, u5⟩
  conv => whnf
  refine .mk fun b6 hb6 => ?_
  conv => whnf
  refine .done (.mk _ (exCheck y5 A6 P5 b6 (t5.mono lb5) hb6 2 2 [(0, 2), (1023, 2)] 1025 u5) ?_)
  rintro _ h6 ⟨rfl, lc5⟩
  rw [nm5]
  have m6 := Hp.le_trans m5 (Hp.le_trans la5 (Hp.le_trans lb5 lc5))
  conv => whnf
  refine .done (.mk _ (awake14 _) ?_)
  rintro _ hz ⟨rfl, lz⟩
  conv => whnf
  exact .done ⟨rfl, Hp.le_trans m6 lz⟩
end Go.Sx
