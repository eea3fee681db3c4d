/- Layer 19: the closed examples. Conditions: none. -/
import Derived.Test.YthibgmkobcbhhaaM19J
namespace Go.Sx
open Go.Proofs Go.Sort
set_option maxRecDepth 100000
theorem ex_along : along 2 exArcs [0, 1, 1] = (0, [[0, 2], [2, 0], [1, 1], [0, 2]]) := by decide +kernel
theorem ex_look : lookE 2 exArcs [0, 1, 1] = 0 := by decide +kernel
theorem ex_look2 : lookE 2 exArcs [0, 1] = 181 := by decide +kernel
theorem ex_pairs : pairsR (along 2 exArcs [0, 1, 1]).2 exArcs.length = [(0, 1)] := by decide +kernel
theorem ex_max : maxes (along 2 exArcs [0, 1, 1]).2 = [2, 2] := by decide +kernel
theorem ex_check1 : checkE 2 exArcs [0, 1, 1] [(0, 2), (1, 2)] 3 = 192 := by decide +kernel
theorem ex_check2 : checkE 2 exArcs [0, 1, 1] [(3, 2), (0, 3)] 5 = 0 := by decide +kernel
theorem ex_stab : StabOk 2 [2, 2] fun os => os = [0, 1] := by
  intro h q X F kk c d f A cap hr _
  have ht : Tab h 1 A 2 ([0, 1].map fun z : Nat => [iv (z : Int)]) := by
    have := RowAt.one (l := [0, 1]) hr
    exact this
  refine (stable36 f (by decide) A 2 cap [0, 1] ht (by decide) (by decide) (fun i hi => by
    have : i = 0 := by simp at hi; omega
    subst this
    show ¬ cmpI 2 2 < 0
    decide)).mono ?_
  rintro v h' ⟨rfl, rfl⟩
  exact ⟨rfl, [0, 1], .refl _, rfl, hr, fun _ _ => rfl⟩
theorem run_inv {ps : List Pr} {pk : List Int} {m : Nat} {os : List Nat} {regs : List Pr} {plc : List Bool} (r : Run ps pk m os regs plc) : (os = [] ∧ regs = List.replicate m (0, 0) ∧ plc = List.replicate m false) ∨
    ∃ (os' : List Nat) (a : Nat) (regs' : List Pr) (plc' : List Bool) (ys : List Pr), os = os' ++ [a] ∧ Run ps pk m os' regs' plc' ∧ Sorted (Go.Proofs.ltOf cfB) (busyR (nearR ps a) regs' plc') ys ∧ regs = regs'.set a (foldB (pk.getD a 0) ys) ∧ plc = plc'.set a true := by
  cases r with
  | nil => exact .inl ⟨rfl, rfl, rfl⟩
  | step a ys h hs => exact .inr ⟨_, a, _, _, ys, rfl, h, hs, rfl, rfl⟩
theorem ex_run {regs : List Pr} {plc : List Bool} (r : Run [(0, 1)] [2, 2] 2 [0, 1] regs plc) : regs = [(0, 2), (2, 2)] := by
  rcases run_inv r with ⟨e, _⟩ | ⟨os, a, regs1, plc1, ys, e, r1, s1, rfl, rfl⟩
  · cases e
  obtain ⟨rfl, e⟩ := List.append_inj' (s₁ := [0]) (t₁ := [1]) e rfl
  obtain rfl : 1 = a := by simpa using e
  rcases run_inv r1 with ⟨e, _⟩ | ⟨os, a, regs2, plc2, ys2, e, r2, s2, rfl, rfl⟩
  · cases e
  obtain ⟨rfl, e⟩ := List.append_inj' (s₁ := []) (t₁ := [0]) e rfl
  obtain rfl : 0 = a := by simpa using e
  rcases run_inv r2 with ⟨_, rfl, rfl⟩ | ⟨os, a, regs3, plc3, ys3, e, _⟩
  · have h2 : ys2 = [] := by
      have := s2.perm.length_eq
      exact List.eq_nil_of_length_eq_zero (by rw [this]; decide)
    subst h2
    have hb : busyR (nearR [((0 : Int), (1 : Int))] ((1 : Nat) : Int)) ((List.replicate 2 ((0 : Int), (0 : Int))).set 0 (foldB (([2, 2] : List Int).getD 0 0) [])) ((List.replicate 2 false).set 0 true) = [(0, 2)] := by decide +kernel
    rw [hb] at s1
    have h1 : ys = [(0, 2)] := List.perm_singleton.1 s1.perm
    subst h1
    decide +kernel
  · exact absurd e (by simp)
theorem exClash (h : Hp) (A : Option Addr) (b : Nat) (ht : Tab h 5 A 2 (exArcs.map Arc.cells)) (hb : h b = none) :
    Fn Try.prog 11 #[netV 2 A 2 2, .slice (some ⟨b, 0, none⟩) 3 3] (h.put b (.cells #[iv 0, iv 1, iv 1] 3 (0, 0))) fun v h' => (∃ E c, v = .tuple #[.slice E 1 c, iv 0] ∧ Tab h' 2 E 1 ([((0 : Int), (1 : Int))].map pc)) ∧ h.le h' := by
  refine (clash11 2 2 2 exArcs A _ 3 3 [0, 1, 1] _ (ht.mono (Hp.le_put hb)) (by decide) (litNums put_at rfl)).mono ?_
  rintro v h' ⟨l, _, g⟩
  rw [ex_pairs] at g
  obtain ⟨E, c, rfl, ro, _⟩ := g (by rw [ex_along])
  exact ⟨⟨E, c, rfl, ro.tab2⟩, Hp.le_trans (Hp.le_put hb) l⟩
theorem exPlace (h : Hp) (A : Option Addr) (b : Nat) (ht : Tab h 5 A 2 (exArcs.map Arc.cells)) (hb : h b = none) :
    Fn Try.prog 17 #[netV 2 A 2 2, .slice (some ⟨b, 0, none⟩) 3 3] (h.put b (.cells #[iv 0, iv 1, iv 1] 3 (0, 0))) fun v h' => (∃ g, v = .tuple #[regV (some g) 2 2 4, iv 0] ∧ Tab h' 2 (some g) 2 ([((0 : Int), (2 : Int)), (2, 2)].map pc)) ∧ h.le h' := by
  refine (place17 2 2 2 exArcs A _ 3 3 [0, 1, 1] _ (ht.mono (Hp.le_put hb)) (by decide) (litNums put_at rfl) (fun os => os = [0, 1]) fun _ => by rw [ex_max]; exact ex_stab).mono ?_
  rintro v h' ⟨l, _, g⟩
  obtain ⟨os, regs, plc, _, rfl, run, _, k⟩ := g ex_look
  rw [ex_pairs, ex_max] at run
  have := ex_run run
  subst this
  obtain ⟨gA, rfl, t⟩ := k (by decide)
  exact ⟨⟨gA, rfl, t⟩, Hp.le_trans (Hp.le_put hb) l⟩
theorem exPlace2 (h : Hp) (A : Option Addr) (b : Nat) (ht : Tab h 5 A 2 (exArcs.map Arc.cells)) (hb : h b = none) :
    Fn Try.prog 17 #[netV 2 A 2 2, .slice (some ⟨b, 0, none⟩) 2 2] (h.put b (.cells #[iv 0, iv 1] 3 (0, 0))) fun v h' => v = .tuple #[regV none 0 0 0, iv 181] ∧ h.le h' := by
  refine (place17 2 2 2 exArcs A _ 2 2 [0, 1] _ (ht.mono (Hp.le_put hb)) (by decide) (litNums put_at rfl) (fun _ => True) fun q => absurd q (by rw [ex_look2]; decide)).mono ?_
  rintro v h' ⟨l, g, _⟩
  rw [ex_look2] at g
  exact ⟨g (by decide), Hp.le_trans (Hp.le_put hb) l⟩
theorem exCheck (h : Hp) (A P : Option Addr) (b : Nat) (ht : Tab h 5 A 2 (exArcs.map Arc.cells)) (hb : h b = none) (pn pcap : Nat) (rs : List Pr) (t : Int) (hp : Tab h 2 P pn (rs.map pc)) :
    Fn Try.prog 22 #[netV 2 A 2 2, regV P pn pcap t, .slice (some ⟨b, 0, none⟩) 3 3] (h.put b (.cells #[iv 0, iv 1, iv 1] 3 (0, 0))) fun v h' => v = iv (checkE 2 exArcs [0, 1, 1] rs t) ∧ h.le h' := by
  refine (check22 2 2 2 exArcs A _ 3 3 [0, 1, 1] _ (ht.mono (Hp.le_put hb)) (by decide) (litNums put_at rfl) P pn pcap rs t (hp.mono (Hp.le_put hb))).mono ?_
  rintro v h' ⟨rfl, l⟩
  exact ⟨rfl, Hp.le_trans (Hp.le_put hb) l⟩
theorem awake14 (h : Hp) : Fn Try.prog 14 #[] h fun r h' => r = .bool true ∧ h.le h' := by
  refine Fn.intro (args := []) mix14 Try.func14 rfl (by decide) Try.ntmps14 rfl (low14 rfl) rfl ?_
  conv => whnf
  refine .done (.mk _ (two24 h) ?_)
  rintro _ h1 ⟨A1, rfl, l1, t1⟩
  conv => whnf
  refine .mk fun b1 hb1 => ?_
  conv => whnf
  refine .done (.mk _ (exClash h1 A1 b1 t1 hb1) ?_)
  rintro _ h2 ⟨⟨E2, c2, rfl, tE⟩, l2⟩
  conv => whnf
  refine .done (.mk _ (two24 h2) ?_)
  rintro _ h3 ⟨A3, rfl, l3, t3⟩
  conv => whnf
  refine .mk fun b3 hb3 => ?_
  conv => whnf
  refine .done (.mk _ (exPlace h3 A3 b3 t3 hb3) ?_)
  rintro _ h4 ⟨⟨g4, rfl, t4⟩, l4⟩
  conv => whnf
  refine .done (.mk _ (two24 h4) ?_)
  rintro _ h5 ⟨A5, rfl, l5, t5⟩
  conv => whnf
  refine .mk fun b5 hb5 => ?_
  conv => whnf
  refine .done (.mk _ (exPlace2 h5 A5 b5 t5 hb5) ?_)
  rintro _ h6 ⟨rfl, l6⟩
  conv => whnf
  refine .done (.mk _ (two24 h6) ?_)
  rintro _ h7 ⟨A7, rfl, l7, t7⟩
  conv => whnf
  refine .done (.mk _ (plan25 0 2 1 2 3 h7) ?_)
  rintro _ h8 ⟨P8, rfl, l8, t8⟩
  conv => whnf
  refine .mk fun b8 hb8 => ?_
  conv => whnf
  refine .done (.mk _ (exCheck h8 A7 P8 b8 (t7.mono l8) hb8 2 2 [(0, 2), (1, 2)] 3 t8) ?_)
  rintro _ h9 ⟨rfl, l9⟩
  rw [ex_check1]
  conv => whnf
  refine .done (.mk _ (two24 h9) ?_)
  rintro _ h10 ⟨A10, rfl, l10, t10⟩
  conv => whnf
  refine .done (.mk _ (plan25 3 2 0 3 5 h10) ?_)
  rintro _ h11 ⟨P11, rfl, l11, t11⟩
  conv => whnf
  refine .mk fun b11 hb11 => ?_
  conv => whnf
  refine .done (.mk _ (exCheck h11 A10 P11 b11 (t10.mono l11) hb11 2 2 [(3, 2), (0, 3)] 5 t11) ?_)
  rintro _ h12 ⟨rfl, l12⟩
  rw [ex_check2]
  have l412 : h4.le h12 := Hp.le_trans l5 (Hp.le_trans l6 (Hp.le_trans l7 (Hp.le_trans l8 (Hp.le_trans l9 (Hp.le_trans l10 (Hp.le_trans l11 l12))))))
  have l212 : h2.le h12 := Hp.le_trans l3 (Hp.le_trans l4 l412)
  obtain ⟨gE, hgE⟩ := tE.ad (by decide)
  conv => whnf
  refine .mk gE hgE (by decide) (by decide) ?_
  conv => whnf
  refine .hp (pc (0, 1)) rfl ((tE.mono l212).row hgE (i := 0) rfl) ?_
  conv => whnf
  refine .mk _ (plan25 0 2 2 2 4 h12) ?_ ?_
  · rintro _ _ ⟨_, _, l, _⟩; exact l
  rintro _ h13 ⟨P13, rfl, l13, t13⟩
  conv => whnf
  refine .mk _ (samePlan32 (some g4) P13 2 2 2 2 [(0, 2), (2, 2)] [(0, 2), (2, 2)] 4 4 h13 (t4.mono (Hp.le_trans l412 l13)) t13 (by decide)) ?_ ?_
  · rintro _ _ ⟨rfl, rfl⟩; exact Hp.le_refl _
  rintro _ _ ⟨rfl, rfl⟩
  rw [decide_eq_true ⟨rfl, rfl⟩]
  conv => whnf
  refine .done ⟨rfl, ?_⟩
  exact Hp.le_trans l1 (Hp.le_trans (Hp.le_trans l2 l212) l13)
end Go.Sx
