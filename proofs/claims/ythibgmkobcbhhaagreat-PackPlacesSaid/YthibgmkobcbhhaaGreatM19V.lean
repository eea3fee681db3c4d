/- Layer 19: the closed examples. Conditions: none. -/
import Derived.Test.YthibgmkobcbhhaaGreatM19J
import Derived.Test.YthibgmkobcbhhaaGreatM19K
namespace Go.Sx
open Go.Proofs Go.Sort
set_option maxRecDepth 100000
theorem ex_along : along 2 exArcs [0, 1, 1] = (0, [[0, 2], [2, 0], [1, 1], [0, 2]]) := by decide +kernel
theorem ex_look : lookE 2 exArcs [0, 1, 1] = 0 := by decide +kernel
theorem ex_look2 : lookE 2 exArcs [0, 1] = 181 := by decide +kernel
theorem ex_pairs : pairsR (along 2 exArcs [0, 1, 1]).2 exArcs.length = [(0, 1)] := by decide +kernel
theorem ex_max : maxes (along 2 exArcs [0, 1, 1]).2 = [2, 2] := by decide +kernel
theorem ex_check1 : checkE 2 exArcs [0, 1, 1] [(0, 2), (1, 2)] 3 = 192 := by decide +kernel
theorem ex_check2 : checkE 2 exArcs [0, 1, 1] [(3, 2), (0, 3)] 5 = 0 := by decide +kernel
theorem ex_stab : StabOk 2 [2, 2] fun os => os = [0, 1] := by
  intro h q X F kk c d f A cap hr _
  have ht : Tab h 1 A 2 ([0, 1].map fun z : Nat => [iv (z : Int)]) := by
    have := RowAt.one (l := [0, 1]) hr
    exact this
  refine (stable36 f (by decide) A 2 cap [0, 1] ht (by decide) (by decide) (fun i hi => by
    have : i = 0 := by simp at hi; omega
    subst this
    show ¬ cmpI 2 2 < 0
    decide)).mono ?_
  rintro v h' ⟨rfl, rfl⟩
  exact ⟨rfl, [0, 1], .refl _, rfl, hr, fun _ _ => rfl⟩
theorem run_inv {ps : List Pr} {pk : List Int} {m : Nat} {os : List Nat} {regs : List Pr} {plc : List Bool} (r : Run ps pk m os regs plc) : (os = [] ∧ regs = List.replicate m (0, 0) ∧ plc = List.replicate m false) ∨
    ∃ (os' : List Nat) (a : Nat) (regs' : List Pr) (plc' : List Bool) (ys : List Pr), os = os' ++ [a] ∧ Run ps pk m os' regs' plc' ∧ Sorted (Go.Proofs.ltOf cfB) (busyR (nearR ps a) regs' plc') ys ∧ regs = regs'.set a (foldB (pk.getD a 0) ys) ∧ plc = plc'.set a true := by
  cases r with
  | nil => exact .inl ⟨rfl, rfl, rfl⟩
  | step a ys h hs => exact .inr ⟨_, a, _, _, ys, rfl, h, hs, rfl, rfl⟩
theorem ex_run {regs : List Pr} {plc : List Bool} (r : Run [(0, 1)] [2, 2] 2 [0, 1] regs plc) : regs = [(0, 2), (2, 2)] := by
  rcases run_inv r with ⟨e, _⟩ | ⟨os, a, regs1, plc1, ys, e, r1, s1, rfl, rfl⟩
  · cases e
  obtain ⟨rfl, e⟩ := List.append_inj' (s₁ := [0]) (t₁ := [1]) e rfl
  obtain rfl : 1 = a := by simpa using e
  rcases run_inv r1 with ⟨e, _⟩ | ⟨os, a, regs2, plc2, ys2, e, r2, s2, rfl, rfl⟩
  · cases e
  obtain ⟨rfl, e⟩ := List.append_inj' (s₁ := []) (t₁ := [0]) e rfl
  obtain rfl : 0 = a := by simpa using e
  rcases run_inv r2 with ⟨_, rfl, rfl⟩ | ⟨os, a, regs3, plc3, ys3, e, _⟩
  · have h2 : ys2 = [] := by
      have := s2.perm.length_eq
      exact List.eq_nil_of_length_eq_zero (by rw [this]; decide)
    subst h2
    have hb : busyR (nearR [((0 : Int), (1 : Int))] ((1 : Nat) : Int)) ((List.replicate 2 ((0 : Int), (0 : Int))).set 0 (foldB (([2, 2] : List Int).getD 0 0) [])) ((List.replicate 2 false).set 0 true) = [(0, 2)] := by decide +kernel
    rw [hb] at s1
    have h1 : ys = [(0, 2)] := List.perm_singleton.1 s1.perm
    subst h1
    decide +kernel
  · exact absurd e (by simp)
theorem exClash (h : Hp) (A : Option Addr) (b : Nat) (ht : Tab h 5 A 2 (exArcs.map Arc.cells)) (hb : h b = none) :
    Fn Tryz.prog 31 #[netV 2 A 2 2, .slice (some ⟨b, 0, none⟩) 3 3] (h.put b (.cells #[iv 0, iv 1, iv 1] 3 (0, 0))) fun v h' => (∃ E c, v = .tuple #[.slice E 1 c, iv 0] ∧ Tab h' 2 E 1 ([((0 : Int), (1 : Int))].map pc)) ∧ h.le h' := by
  refine (clash11 2 2 2 exArcs A _ 3 3 [0, 1, 1] _ (ht.mono (Hp.le_put hb)) (by decide) (litNums put_at rfl)).mono ?_
  rintro v h' ⟨l, _, g⟩
  rw [ex_pairs] at g
  obtain ⟨E, c, rfl, ro, _⟩ := g (by rw [ex_along])
  exact ⟨⟨E, c, rfl, ro.tab2⟩, Hp.le_trans (Hp.le_put hb) l⟩
theorem exPlace (h : Hp) (A : Option Addr) (b : Nat) (ht : Tab h 5 A 2 (exArcs.map Arc.cells)) (hb : h b = none) :
    Fn Tryz.prog 7 #[netV 2 A 2 2, .slice (some ⟨b, 0, none⟩) 3 3] (h.put b (.cells #[iv 0, iv 1, iv 1] 3 (0, 0))) fun v h' => (∃ g, v = .tuple #[regV (some g) 2 2 4, iv 0] ∧ Tab h' 2 (some g) 2 ([((0 : Int), (2 : Int)), (2, 2)].map pc)) ∧ h.le h' := by
  refine (place17 2 2 2 exArcs A _ 3 3 [0, 1, 1] _ (ht.mono (Hp.le_put hb)) (by decide) (litNums put_at rfl) (fun os => os = [0, 1]) fun _ => by rw [ex_max]; exact ex_stab).mono ?_
  rintro v h' ⟨l, _, g⟩
  obtain ⟨os, regs, plc, _, rfl, run, _, k⟩ := g ex_look
  rw [ex_pairs, ex_max] at run
  have := ex_run run
  subst this
  obtain ⟨gA, rfl, t⟩ := k (by decide)
  exact ⟨⟨gA, rfl, t⟩, Hp.le_trans (Hp.le_put hb) l⟩
theorem exPlace2 (h : Hp) (A : Option Addr) (b : Nat) (ht : Tab h 5 A 2 (exArcs.map Arc.cells)) (hb : h b = none) :
    Fn Tryz.prog 7 #[netV 2 A 2 2, .slice (some ⟨b, 0, none⟩) 2 2] (h.put b (.cells #[iv 0, iv 1] 3 (0, 0))) fun v h' => v = .tuple #[regV none 0 0 0, iv 181] ∧ h.le h' := by
  refine (place17 2 2 2 exArcs A _ 2 2 [0, 1] _ (ht.mono (Hp.le_put hb)) (by decide) (litNums put_at rfl) (fun _ => True) fun q => absurd q (by rw [ex_look2]; decide)).mono ?_
  rintro v h' ⟨l, g, _⟩
  rw [ex_look2] at g
  exact ⟨g (by decide), Hp.le_trans (Hp.le_put hb) l⟩
theorem exCheck (h : Hp) (A P : Option Addr) (b : Nat) (ht : Tab h 5 A 2 (exArcs.map Arc.cells)) (hb : h b = none) (pn pcap : Nat) (rs : List Pr) (t : Int) (hp : Tab h 2 P pn (rs.map pc)) :
    Fn Tryz.prog 13 #[netV 2 A 2 2, regV P pn pcap t, .slice (some ⟨b, 0, none⟩) 3 3] (h.put b (.cells #[iv 0, iv 1, iv 1] 3 (0, 0))) fun v h' => v = iv (checkE 2 exArcs [0, 1, 1] rs t) ∧ h.le h' := by
  refine (check22 2 2 2 exArcs A _ 3 3 [0, 1, 1] _ (ht.mono (Hp.le_put hb)) (by decide) (litNums put_at rfl) P pn pcap rs t (hp.mono (Hp.le_put hb))).mono ?_
  rintro v h' ⟨rfl, l⟩
  exact ⟨rfl, Hp.le_trans (Hp.le_put hb) l⟩
theorem awake14 (h : Hp) : Fn Tryz.prog 10 #[] h fun r h' => r = .bool true ∧ h.le h' := by
  refine Fn.intro (args := []) mix14 Tryz.func10 rfl (by decide) Tryz.ntmps10 rfl (low10 rfl) rfl ?_
  conv => whnf
  refine .done (.mk _ (two24 h) ?_)
  rintro _ h1 ⟨A1, rfl, l1, t1⟩
  conv => whnf
  refine .mk fun b1 hb1 => ?_
  conv => whnf
  refine .done (.mk _ (exClash h1 A1 b1 t1 hb1) ?_)
  rintro _ h2 ⟨⟨E2, c2, rfl, tE⟩, l2⟩
  conv => whnf
  refine .done (.mk _ (two24 h2) ?_)
  rintro _ h3 ⟨A3, rfl, l3, t3⟩
  conv => whnf
  refine .mk fun b3 hb3 => ?_
  conv => whnf
  refine .done (.mk _ (exPlace h3 A3 b3 t3 hb3) ?_)
  rintro _ h4 ⟨⟨g4, rfl, t4⟩, l4⟩
  conv => whnf
  refine .done (.mk _ (two24 h4) ?_)
  rintro _ h5 ⟨A5, rfl, l5, t5⟩
  conv => whnf
  refine .mk fun b5 hb5 => ?_
  conv => whnf
  refine .done (.mk _ (exPlace2 h5 A5 b5 t5 hb5) ?_)
  rintro _ h6 ⟨rfl, l6⟩
  conv => whnf
  refine .done (.mk _ (two24 h6) ?_)
  rintro _ h7 ⟨A7, rfl, l7, t7⟩
  conv => whnf
  refine .done (.mk _ (plan25 0 2 1 2 3 h7) ?_)
  rintro _ h8 ⟨P8, rfl, l8, t8⟩
  conv => whnf
  refine .mk fun b8 hb8 => ?_
  conv => whnf
  refine .done (.mk _ (exCheck h8 A7 P8 b8 (t7.mono l8) hb8 2 2 [(0, 2), (1, 2)] 3 t8) ?_)
  rintro _ h9 ⟨rfl, l9⟩
  rw [ex_check1]
  conv => whnf
  refine .done (.mk _ (two24 h9) ?_)
  rintro _ h10 ⟨A10, rfl, l10, t10⟩
  conv => whnf
  refine .done (.mk _ (plan25 3 2 0 3 5 h10) ?_)
  rintro _ h11 ⟨P11, rfl, l11, t11⟩
  conv => whnf
  refine .mk fun b11 hb11 => ?_
  conv => whnf
  refine .done (.mk _ (exCheck h11 A10 P11 b11 (t10.mono l11) hb11 2 2 [(3, 2), (0, 3)] 5 t11) ?_)
  rintro _ h12 ⟨rfl, l12⟩
  rw [ex_check2]
  have l412 : h4.le h12 := Hp.le_trans l5 (Hp.le_trans l6 (Hp.le_trans l7 (Hp.le_trans l8 (Hp.le_trans l9 (Hp.le_trans l10 (Hp.le_trans l11 l12))))))
  have l212 : h2.le h12 := Hp.le_trans l3 (Hp.le_trans l4 l412)
  obtain ⟨gE, hgE⟩ := tE.ad (by decide)
  conv => whnf
  refine .mk gE hgE (by decide) (by decide) ?_
  conv => whnf
  refine .hp (pc (0, 1)) rfl ((tE.mono l212).row hgE (i := 0) rfl) ?_
  conv => whnf
  refine .mk _ (plan25 0 2 2 2 4 h12) ?_ ?_
  · rintro _ _ ⟨_, _, l, _⟩; exact l
  rintro _ h13 ⟨P13, rfl, l13, t13⟩
  conv => whnf
  refine .mk _ (samePlan32 (some g4) P13 2 2 2 2 [(0, 2), (2, 2)] [(0, 2), (2, 2)] 4 4 h13 (t4.mono (Hp.le_trans l412 l13)) t13 (by decide)) ?_ ?_
  · rintro _ _ ⟨rfl, rfl⟩; exact Hp.le_refl _
  rintro _ _ ⟨rfl, rfl⟩
  rw [decide_eq_true ⟨rfl, rfl⟩]
  conv => whnf
  refine .done ⟨rfl, ?_⟩
  exact Hp.le_trans l1 (Hp.le_trans (Hp.le_trans l2 l212) l13)
end Go.Sx
namespace Go.Sx
open Go.Proofs Go.Sort
set_option maxRecDepth 100000
def mv (d : Int) (x : Pr) : Pr := (x.1 + d, x.2)
theorem fold_le : ∀ (l : List Pr) (a n : Int), l.foldl (fun n x => max n (x.1 + x.2)) a ≤ n ↔ a ≤ n ∧ ∀ x ∈ l, x.1 + x.2 ≤ n
  | [], a, n => by simp
  | x :: l, a, n => by
    simp only [List.foldl_cons, fold_le l, List.mem_cons, forall_eq_or_imp]
    constructor
    · rintro ⟨h, h2⟩; exact ⟨by omega, by omega, h2⟩
    · rintro ⟨h, h1, h2⟩; exact ⟨by omega, h2⟩
theorem total_le {l : List Pr} {n : Int} : totalR l ≤ n ↔ 0 ≤ n ∧ ∀ x ∈ l, x.1 + x.2 ≤ n := fold_le l 0 n
theorem total_ge {l : List Pr} {x : Pr} (h : x ∈ l) : x.1 + x.2 ≤ totalR l := (total_le.1 (Int.le_refl _)).2 x h
theorem total_pos (l : List Pr) : 0 ≤ totalR l := (total_le.1 (Int.le_refl _)).1
theorem total_mv {l : List Pr} {d : Int} (hl : l ≠ []) (h0 : ∀ x ∈ l, 0 ≤ x.1 ∧ 0 ≤ x.2) (hd : 0 ≤ d) : totalR (l.map (mv d)) = totalR l + d := by
  have h1 : totalR (l.map (mv d)) ≤ totalR l + d := by
    rw [total_le]
    refine ⟨by have := total_pos l; omega, fun x hx => ?_⟩
    obtain ⟨y, hy, rfl⟩ := List.mem_map.1 hx
    have := total_ge hy
    show y.1 + d + y.2 ≤ _
    omega
  have h3 : ∀ y ∈ l, y.1 + d + y.2 ≤ totalR (l.map (mv d)) := fun y hy => total_ge (x := mv d y) (List.mem_map_of_mem hy)
  have h2 : totalR l ≤ totalR (l.map (mv d)) - d := by
    rw [total_le]
    refine ⟨?_, fun y hy => by have := h3 y hy; omega⟩
    obtain ⟨y, hy⟩ := List.exists_mem_of_ne_nil l hl
    have := h3 y hy
    have := h0 y hy
    omega
  omega
theorem share_mv (x y : Pr) (d : Int) : shareR (mv d x) (mv d y) = shareR x y := by
  unfold shareR mv
  simp only [decide_eq_decide]
  omega
theorem regE_mv {d T : Int} (hd : 0 ≤ d) (hT : T + d ≤ 1024) : ∀ (rs : List Pr) (pk : List Int), regE rs pk = 0 → rs.length = pk.length → (∀ x ∈ rs, x.1 + x.2 ≤ T) → regE (rs.map (mv d)) pk = 0
  | [], _, _, _, _ => by simp [regE]
  | x :: rs, [], _, hl, _ => by simp at hl
  | x :: rs, p :: pk, h, hl, ht => by
    have h1 := ht x (List.mem_cons_self ..)
    unfold regE at h
    split at h
    · cases h
    · rename_i g1
      split at h
      · rename_i g2; cases h
      · rename_i g2
        have ih := regE_mv hd hT rs pk h (by simpa using hl) (fun y hy => ht y (List.mem_cons_of_mem _ hy))
        rw [List.map_cons]
        unfold regE mv
        rw [if_neg (by show ¬ (min (x.1 + d) x.2 < 0 ∨ 1024 < max (x.1 + d) x.2); omega), if_neg g2]
        exact ih
theorem plan_mv {ps : List Pr} {pk : List Int} {m : Nat} {rs : List Pr} {t d : Int} (hpk : pk.length = m) (hps : ∀ p ∈ ps, 0 ≤ p.1 ∧ p.1 < p.2 ∧ p.2 < m) (h : planE ps pk m rs t = 0) (hm : m ≠ 0) (hd : 0 ≤ d) (hdt : d ≤ 1024 - t) : planE ps pk m (rs.map (mv d)) (t + d) = 0 := by
  unfold planE at h ⊢
  split at h
  · cases h
  rename_i hl
  have hl : rs.length = m := by omega
  split at h
  · rename_i g; exact absurd h g
  rename_i hr
  have hr : regE rs pk = 0 := by omega
  split at h
  · cases h
  rename_i ht
  have ht : t = totalR rs := by omega
  split at h
  · cases h
  split at h
  · cases h
  rename_i hs
  have hok := regE_ok rs pk hr (by omega)
  have hin : ∀ x ∈ rs, InR x := fun x hx => by
    obtain ⟨i, hi, rfl⟩ := List.getElem_of_mem hx
    have := (hok i hi).1
    rwa [List.getD_eq_getElem?_getD, List.getElem?_eq_getElem hi] at this
  have hne : rs ≠ [] := fun e => by rw [e] at hl; exact hm hl.symm
  have htm : totalR (rs.map (mv d)) = t + d := by
    rw [total_mv hne (fun x hx => by obtain ⟨a, _, c, _⟩ := hin x hx; exact ⟨a, c⟩) hd, ← ht]
  rw [if_neg (by rw [List.length_map]; omega), if_neg (by rw [regE_mv (T := t) hd (by omega) rs pk hr (by omega) fun x hx => by rw [ht]; exact total_ge hx]; omega), if_neg (by omega), if_neg (by omega), if_neg]
  intro hq
  refine hs ?_
  rw [List.any_eq_true] at hq ⊢
  obtain ⟨p, hp, hh⟩ := hq
  refine ⟨p, hp, ?_⟩
  obtain ⟨p0, p1, p2⟩ := hps p hp
  unfold hitR at hh ⊢
  have e : ∀ z : Int, 0 ≤ z → z < m → (rs.map (mv d)).getD z.toNat (0, 0) = mv d (rs.getD z.toNat (0, 0)) := fun z z0 zm => by
    rw [List.getD_eq_getElem?_getD, List.getD_eq_getElem?_getD, List.getElem?_map, List.getElem?_eq_getElem (by omega)]
    rfl
  rw [e _ p0 (by omega), e _ (by omega) p2, share_mv] at hh
  exact hh
theorem check_mv {N : Int} {arcs : List Arc} {zs : List Int} {rs : List Pr} {t d : Int} (h : checkE N arcs zs rs t = 0) (hm : arcs.length ≠ 0) (hd : 0 ≤ d) (hdt : d ≤ 1024 - t) : checkE N arcs zs (rs.map (mv d)) (t + d) = 0 := by
  unfold checkE at h ⊢
  split at h
  · rename_i g; exact absurd h g
  · rename_i g
    rw [if_neg g]
    have hal : (along N arcs zs).1 = 0 := by
      refine Decidable.byContradiction fun q => ?_
      unfold lookE at g
      rw [if_pos q] at g
      omega
    obtain ⟨pks, _⟩ := look_peaks hal
    refine plan_mv pks.len (fun p hp => ?_) h hm hd hdt
    obtain ⟨i, j, rfl, a, b, _⟩ := pairs_mem.1 hp
    exact ⟨by show (0 : Int) ≤ (i : Int); omega, by show (i : Int) < (j : Int); omega, by show (j : Int) < _; omega⟩
theorem check_range {N : Int} {arcs : List Arc} {zs : List Int} {rs : List Pr} {t : Int} (h : checkE N arcs zs rs t = 0) : rs.length = arcs.length ∧ 0 ≤ t ∧ t ≤ 1024 ∧ ∀ x ∈ rs, InR x := by
  unfold checkE at h
  split at h
  · rename_i g; exact absurd h g
  · rename_i g
    have hal : (along N arcs zs).1 = 0 := by
      refine Decidable.byContradiction fun q => ?_
      unfold lookE at g
      rw [if_pos q] at g
      omega
    obtain ⟨pks, _⟩ := look_peaks hal
    have hpk := pks.len
    unfold planE at h
    split at h
    · cases h
    rename_i hl
    have hl : rs.length = arcs.length := by omega
    split at h
    · rename_i g; exact absurd h g
    rename_i hr
    split at h
    · cases h
    split at h
    · cases h
    have hok := regE_ok rs (maxes (along N arcs zs).2) (by omega) (by omega)
    refine ⟨hl, by have := total_pos rs; omega, by omega, fun x hx => ?_⟩
    obtain ⟨i, hi, rfl⟩ := List.getElem_of_mem hx
    have := (hok i hi).1
    rwa [List.getD_eq_getElem?_getD, List.getElem?_eq_getElem hi] at this
end Go.Sx
namespace Go.Sx
open Go.Proofs Go.Sort
set_option maxRecDepth 100000
theorem share_iff (x y : Pr) : shareR x y = true ↔ x.1 < x.1 + x.2 ∧ x.1 < y.1 + y.2 ∧ y.1 < x.1 + x.2 ∧ y.1 < y.1 + y.2 := by
  unfold shareR
  rw [decide_eq_true_iff]
  omega
theorem share_comm (x y : Pr) : shareR x y = shareR y x := by
  rw [Bool.eq_iff_iff, share_iff, share_iff]
  omega
/-- what was shifted past regions in their order shares with none of them -/
theorem foldB_apart {s : Int} {ys : List Pr} (ho : ys.Pairwise fun a b => Go.Proofs.ltOf cfB b a = false) : ∀ y ∈ ys, shareR (foldB s ys) y = false := by
  have key : ∀ (ys pre : List Pr) (x : Pr), ys.Pairwise (fun a b => Go.Proofs.ltOf cfB b a = false) → (∀ p ∈ pre, ∀ y ∈ ys, p.1 ≤ y.1) → (∀ p ∈ pre, shareR x p = false) → ∀ y ∈ pre ++ ys, shareR (ys.foldl shiftR x) y = false := by
    intro ys
    induction ys with
    | nil => intro pre x _ _ h y hy; exact h y (by simpa using hy)
    | cons z ys ih =>
      intro pre x hp hle h y hy
      obtain ⟨hz, hp2⟩ := List.pairwise_cons.1 hp
      simp only [List.foldl_cons]
      refine ih (pre ++ [z]) (shiftR x z) hp2 (fun p hpp w hw => ?_) (fun p hpp => ?_) y (by simpa using hy)
      · rcases List.mem_append.1 hpp with hpp | hpp
        · exact hle p hpp w (List.mem_cons_of_mem _ hw)
        · rw [List.mem_singleton.1 hpp]
          have := hz w hw
          rw [ltB] at this
          have := of_decide_eq_false this
          omega
      · unfold shiftR
        cases hs : shareR x z with
        | false =>
          rcases List.mem_append.1 hpp with hpp | hpp
          · exact h p hpp
          · rw [List.mem_singleton.1 hpp]; exact hs
        | true =>
          rw [share_iff] at hs
          rw [if_pos rfl, Bool.eq_false_iff, ne_eq, share_iff]
          rcases List.mem_append.1 hpp with hpp | hpp
          · have h1 := h p hpp
            have h2 := hle p hpp z (List.mem_cons_self ..)
            rw [Bool.eq_false_iff, ne_eq, share_iff] at h1
            intro h3
            refine h1 ?_
            simp only at h3 ⊢
            omega
          · rw [List.mem_singleton.1 hpp]
            simp only
            omega
  intro y hy
  exact key ys [] (0, s) ho (fun p hp => by cases hp) (fun p hp => by cases hp) y (by simpa using hy)
/-- it begins at 0, or where one of them ends -/
theorem foldB_base (s : Int) (ys : List Pr) : (foldB s ys).2 = s ∧ ((foldB s ys).1 = 0 ∨ ∃ y ∈ ys, (foldB s ys).1 = y.1 + y.2) := by
  have key : ∀ (ys : List Pr) (x : Pr), (ys.foldl shiftR x).2 = x.2 ∧ ((ys.foldl shiftR x).1 = x.1 ∨ ∃ y ∈ ys, (ys.foldl shiftR x).1 = y.1 + y.2) := by
    intro ys
    induction ys with
    | nil => intro x; exact ⟨rfl, .inl rfl⟩
    | cons z ys ih =>
      intro x
      simp only [List.foldl_cons]
      obtain ⟨a, b⟩ := ih (shiftR x z)
      unfold shiftR at a b ⊢
      split at a
      · rename_i hs
        rw [if_pos hs] at b ⊢
        refine ⟨a, .inr ?_⟩
        rcases b with b | ⟨y, hy, b⟩
        · exact ⟨z, List.mem_cons_self .., b⟩
        · exact ⟨y, List.mem_cons_of_mem _ hy, b⟩
      · rename_i hs
        rw [if_neg hs] at b ⊢
        refine ⟨a, ?_⟩
        rcases b with b | ⟨y, hy, b⟩
        · exact .inl b
        · exact .inr ⟨y, List.mem_cons_of_mem _ hy, b⟩
  exact key ys (0, s)
theorem nearV_mem {ps : List Pr} {a z : Int} : z ∈ nearR ps a → (a, z) ∈ ps ∨ (z, a) ∈ ps := by
  intro h
  obtain ⟨p, hp, e⟩ := List.mem_filterMap.1 h
  split at e
  · rename_i h1
    injection e with e
    exact .inl (by rw [h1, ← e]; exact hp)
  · split at e
    · rename_i h2
      injection e with e
      exact .inr (by rw [h2, ← e]; exact hp)
    · cases e
theorem nearV_of {ps : List Pr} {a z : Int} (hne : a ≠ z) (h : (a, z) ∈ ps ∨ (z, a) ∈ ps) : z ∈ nearR ps a := by
  rcases h with h | h
  · exact List.mem_filterMap.2 ⟨(a, z), h, by rw [if_pos rfl]⟩
  · exact List.mem_filterMap.2 ⟨(z, a), h, by rw [if_neg hne, if_pos rfl]⟩
def Cl (ps : List Pr) (i j : Nat) : Prop := ((i : Int), (j : Int)) ∈ ps ∨ ((j : Int), (i : Int)) ∈ ps
def pkAt (pk : List Int) (i : Nat) : Int := pk.getD i 0
def regAt (regs : List Pr) (i : Nat) : Pr := regs.getD i (0, 0)
structure RunOk (ps : List Pr) (pk : List Int) (os : List Nat) (regs : List Pr) (plc : List Bool) : Prop where
  pl : ∀ i, plc.getD i false = true ↔ i ∈ os
  size : ∀ i ∈ os, (regAt regs i).2 = pkAt pk i
  base : ∀ i ∈ os, 0 ≤ (regAt regs i).1
  apart : ∀ i ∈ os, ∀ j ∈ os, Cl ps i j → shareR (regAt regs i) (regAt regs j) = false
  tight : ∀ i ∈ os, (regAt regs i).1 = 0 ∨ ∃ j ∈ os, Cl ps i j ∧ (regAt regs j).1 + (regAt regs j).2 = (regAt regs i).1
  endd : ∀ i ∈ os, (regAt regs i).1 + (regAt regs i).2 ≤ (os.map (pkAt pk)).sum
theorem getD_set {α : Type} (l : List α) (a i : Nat) (x d : α) (ha : a < l.length) : (l.set a x).getD i d = if i = a then x else l.getD i d := by
  rw [List.getD_eq_getElem?_getD, List.getD_eq_getElem?_getD, List.getElem?_set]
  by_cases h : a = i
  · subst h; rw [if_pos rfl, if_pos ha, if_pos rfl]; rfl
  · rw [if_neg h, if_neg (Ne.symm h)]
theorem run_ok {ps : List Pr} {pk : List Int} {m : Nat} {os : List Nat} {regs : List Pr} {plc : List Bool} (r : Run ps pk m os regs plc) (hpk : ∀ i, 0 ≤ pkAt pk i) (hps : ∀ p ∈ ps, 0 ≤ p.1 ∧ p.1 < p.2) (hno : os.Nodup) (hm : ∀ i ∈ os, i < m) : RunOk ps pk os regs plc := by
  induction r with
  | nil =>
    refine ⟨fun i => ?_, (fun i h => by cases h), (fun i h => by cases h), (fun i h => by cases h), (fun i h => by cases h), (fun i h => by cases h)⟩
    rw [List.getD_eq_getElem?_getD, List.getElem?_replicate]
    split <;> simp
  | @step os regs plc a ys r hs ih =>
    have hno' := hno
    rw [List.nodup_append] at hno
    obtain ⟨n1, _, n3⟩ := hno
    have ha : a ∉ os := fun h => n3 a h a (List.mem_singleton.2 rfl) rfl
    have ih := ih n1 fun i hi => hm i (List.mem_append_left _ hi)
    have ham : a < m := hm a (List.mem_append_right _ (List.mem_singleton.2 rfl))
    obtain ⟨rl, pl⟩ := r.lens
    have gR : ∀ i, regAt (regs.set a (foldB (pk.getD a 0) ys)) i = if i = a then foldB (pk.getD a 0) ys else regAt regs i := fun i => getD_set _ _ _ _ _ (by omega)
    have gP : ∀ i, (plc.set a true).getD i false = if i = a then true else plc.getD i false := fun i => getD_set _ _ _ _ _ (by omega)
    have gS : ∀ i ∈ os, regAt (regs.set a (foldB (pk.getD a 0) ys)) i = regAt regs i := fun i hi => by rw [gR, if_neg fun e => ha (by rw [← e]; exact hi)]
    have gA : regAt (regs.set a (foldB (pk.getD a 0) ys)) a = foldB (pk.getD a 0) ys := by rw [gR, if_pos rfl]
    -- the neighbours that were placed
    have nb : ∀ y ∈ ys, ∃ j ∈ os, Cl ps a j ∧ y = regAt regs j := fun y hy => by
      obtain ⟨z, hz, hpz, e⟩ := busy_mem (hs.perm.mem_iff.1 hy)
      have hj := (ih.pl z.toNat).1 hpz
      have h0 : 0 ≤ z := by
        rcases nearV_mem hz with h | h
        · have := hps _ h; simp only at this; omega
        · have := hps _ h; simp only at this; omega
      have hz2 : ((z.toNat : Nat) : Int) = z := Int.toNat_of_nonneg h0
      exact ⟨z.toNat, hj, by rcases nearV_mem hz with h | h; exact .inl (by rw [hz2]; exact h); exact .inr (by rw [hz2]; exact h), e⟩
    have bn : ∀ j ∈ os, Cl ps a j → regAt regs j ∈ ys := fun j hj hc => by
      refine hs.perm.mem_iff.2 (List.mem_filterMap.2 ⟨(j : Int), nearV_of (fun e => ha (by rw [Int.ofNat_inj.1 e]; exact hj)) hc, ?_⟩)
      rw [Int.toNat_natCast, if_pos ((ih.pl j).2 hj)]
      rfl
    have ap := foldB_apart (s := pk.getD a 0) hs.ord
    obtain ⟨bs, bb⟩ := foldB_base (pk.getD a 0) ys
    have sm : ((os ++ [a]).map (pkAt pk)).sum = (os.map (pkAt pk)).sum + pkAt pk a := by simp [List.sum_append]
    have sp : 0 ≤ (os.map (pkAt pk)).sum := by
      have : ∀ l : List Nat, 0 ≤ (l.map (pkAt pk)).sum := fun l => by
        induction l with
        | nil => simp
        | cons x l ih => have := hpk x; simp only [List.map_cons, List.sum_cons]; omega
      exact this os
    have nn : ∀ j, ¬ Cl ps j j := fun j h => by
      rcases h with h | h <;> (have := (hps _ h).2; simp only at this; omega)
    have cs : ∀ i j, Cl ps i j → Cl ps j i := fun i j h => h.symm
    refine ⟨fun i => ?_, fun i hi => ?_, fun i hi => ?_, fun i hi j hj hc => ?_, fun i hi => ?_, fun i hi => ?_⟩
    · rw [gP]
      split
      · rename_i h; subst h; simp
      · rename_i h
        rw [ih.pl i, List.mem_append, List.mem_singleton]
        constructor
        · exact .inl
        · rintro (h2 | h2)
          · exact h2
          · exact absurd h2 h
    · rcases List.mem_append.1 hi with h | h
      · rw [gS i h]; exact ih.size i h
      · rw [List.mem_singleton.1 h, gA]; exact bs
    · rcases List.mem_append.1 hi with h | h
      · rw [gS i h]; exact ih.base i h
      · rw [List.mem_singleton.1 h, gA]
        rcases bb with bb | ⟨y, hy, bb⟩
        · omega
        · obtain ⟨j, hj, _, rfl⟩ := nb y hy
          have := ih.base j hj
          have := ih.size j hj
          have := hpk j
          omega
    · rcases List.mem_append.1 hi with h | h <;> rcases List.mem_append.1 hj with h' | h'
      · rw [gS i h, gS j h']; exact ih.apart i h j h' hc
      · rw [List.mem_singleton.1 h'] at hc ⊢
        rw [gS i h, gA, share_comm]
        exact ap _ (bn i h (cs _ _ hc))
      · rw [List.mem_singleton.1 h] at hc ⊢
        rw [gS j h', gA]
        exact ap _ (bn j h' hc)
      · rw [List.mem_singleton.1 h, List.mem_singleton.1 h'] at hc
        exact absurd hc (nn a)
    · rcases List.mem_append.1 hi with h | h
      · rw [gS i h]
        rcases ih.tight i h with t | ⟨j, hj, hc, t⟩
        · exact .inl t
        · exact .inr ⟨j, List.mem_append_left _ hj, hc, by rw [gS j hj]; exact t⟩
      · rw [List.mem_singleton.1 h, gA]
        rcases bb with bb | ⟨y, hy, bb⟩
        · exact .inl bb
        · obtain ⟨j, hj, hc, rfl⟩ := nb y hy
          exact .inr ⟨j, List.mem_append_left _ hj, hc, by rw [gS j hj]; exact bb.symm⟩
    · rw [sm]
      rcases List.mem_append.1 hi with h | h
      · rw [gS i h]
        have := ih.endd i h
        have := hpk a
        omega
      · rw [List.mem_singleton.1 h, gA, bs]
        rcases bb with bb | ⟨y, hy, bb⟩
        · show (foldB (pk.getD a 0) ys).1 + pkAt pk a ≤ _
          omega
        · obtain ⟨j, hj, _, rfl⟩ := nb y hy
          have := ih.endd j hj
          show (foldB (pk.getD a 0) ys).1 + pkAt pk a ≤ _
          omega
/-- what shares with nothing needs room of its own -/
theorem disj_sum {T : Int} (l : List Pr) (h : ∀ x ∈ l, 0 ≤ x.1 ∧ 0 ≤ x.2 ∧ x.1 + x.2 ≤ T) (hp : l.Pairwise fun x y => shareR x y = false) (hT : 0 ≤ T) : (l.map (·.2)).sum ≤ T := by
  have hn : (l.flatMap fun x : Pr => List.range' x.1.toNat x.2.toNat).Nodup := by
    rw [List.Nodup, List.pairwise_flatMap]
    refine ⟨fun x _ => List.nodup_range', hp.imp_of_mem fun {x y} hx hy hs => ?_⟩
    intro c hc d hd e
    subst e
    rw [List.mem_range'_1] at hc hd
    have h1 := h x hx
    have h2 := h y hy
    rw [Bool.eq_false_iff, ne_eq, share_iff] at hs
    omega
  have hsub : (l.flatMap fun x : Pr => List.range' x.1.toNat x.2.toNat) ⊆ List.range T.toNat := fun c hc => by
    obtain ⟨x, hx, hc⟩ := List.mem_flatMap.1 hc
    rw [List.mem_range'_1] at hc
    have := h x hx
    rw [List.mem_range]
    omega
  have hlen := hn.length_le_of_subset hsub
  rw [List.length_range] at hlen
  have : ((l.flatMap fun x : Pr => List.range' x.1.toNat x.2.toNat).length : Int) = (l.map (·.2)).sum := by
    clear hn hsub hlen hp
    induction l with
    | nil => rfl
    | cons x l ih =>
      have := ih fun y hy => h y (List.mem_cons_of_mem _ hy)
      have hx := h x (List.mem_cons_self ..)
      rw [List.flatMap_cons, List.length_append, List.length_range', List.map_cons, List.sum_cons]
      omega
  omega
/-- the plan's facts, of every arc -/
structure Fin (rows : List (List Int)) (m : Nat) (pk : List Int) (regs : List Pr) : Prop where
  len : regs.length = m
  size : ∀ i, i < m → (regAt regs i).2 = pkAt pk i
  base : ∀ i, i < m → 0 ≤ (regAt regs i).1
  apart : ∀ i, i < m → ∀ j, j < m → Cl (pairsR rows m) i j → shareR (regAt regs i) (regAt regs j) = false
  tight : ∀ i, i < m → (regAt regs i).1 = 0 ∨ ∃ j, j < m ∧ Cl (pairsR rows m) i j ∧ (regAt regs j).1 + (regAt regs j).2 = (regAt regs i).1
  endd : ∀ i, i < m → (regAt regs i).1 + (regAt regs i).2 ≤ ((List.range m).map (pkAt pk)).sum
theorem perm_sum {l l' : List Int} (h : l.Perm l') : l.sum = l'.sum := by
  induction h with
  | nil => rfl
  | cons x _ ih => simp [ih]
  | swap x y l => simp only [List.sum_cons]; omega
  | trans _ _ a b => exact a.trans b
theorem run_fin {rows : List (List Int)} {m : Nat} {pk : List Int} {os : List Nat} {regs : List Pr} {plc : List Bool} (r : Run (pairsR rows m) pk m os regs plc) (hpk : ∀ i, 0 ≤ pkAt pk i) (hp : os.Perm (List.range m)) : Fin rows m pk regs := by
  have hm : ∀ i, i ∈ os ↔ i < m := fun i => by rw [hp.mem_iff, List.mem_range]
  have k := run_ok r hpk (fun p hp => by
    obtain ⟨i, j, rfl, a, _⟩ := pairs_mem.1 hp
    exact ⟨by show (0 : Int) ≤ (i : Int); omega, by show (i : Int) < (j : Int); omega⟩) ((hp.nodup_iff).2 List.nodup_range) fun i hi => (hm i).1 hi
  refine ⟨r.lens.1, fun i hi => k.size i ((hm i).2 hi), fun i hi => k.base i ((hm i).2 hi), fun i hi j hj => k.apart i ((hm i).2 hi) j ((hm j).2 hj), fun i hi => ?_, fun i hi => ?_⟩
  · rcases k.tight i ((hm i).2 hi) with t | ⟨j, hj, t⟩
    · exact .inl t
    · exact .inr ⟨j, (hm j).1 hj, t⟩
  · have := k.endd i ((hm i).2 hi)
    rwa [perm_sum (hp.map (pkAt pk))] at this
theorem cl_iff {rows : List (List Int)} {m i j : Nat} (hi : i < m) (hj : j < m) (hne : i ≠ j) : Cl (pairsR rows m) i j ↔ meets rows i j = true := by
  have mc : ∀ i j, meets rows i j = meets rows j i := fun i j => by
    unfold meets
    congr 1
    funext r
    exact Bool.and_comm _ _
  unfold Cl
  rw [pairs_mem, pairs_mem]
  constructor
  · rintro (⟨a, b, e, _, _, h⟩ | ⟨a, b, e, _, _, h⟩)
    · obtain ⟨e1, e2⟩ := Prod.mk.inj e
      rw [Int.ofNat_inj.1 e1, Int.ofNat_inj.1 e2]; exact h
    · obtain ⟨e1, e2⟩ := Prod.mk.inj e
      rw [Int.ofNat_inj.1 e1, Int.ofNat_inj.1 e2, mc]; exact h
  · intro h
    rcases Nat.lt_or_gt_of_ne hne with q | q
    · exact .inl ⟨i, j, rfl, q, hj, h⟩
    · exact .inr ⟨j, i, rfl, q, hi, by rw [mc]; exact h⟩
theorem fin_total {rows : List (List Int)} {m : Nat} {pk : List Int} {regs : List Pr} (f : Fin rows m pk regs) {i : Nat} (hi : i < m) : (regAt regs i).1 + (regAt regs i).2 ≤ totalR regs := by
  have : regAt regs i ∈ regs := by
    unfold regAt
    rw [List.getD_eq_getElem?_getD, List.getElem?_eq_getElem (by rw [f.len]; exact hi)]
    exact List.getElem_mem _
  exact total_ge this
/-- what has tokens at one moment has room of its own -/
theorem room_le {rows : List (List Int)} {m : Nat} {pk : List Int} {regs : List Pr} (f : Fin rows m pk regs) (hpk : ∀ i, 0 ≤ pkAt pk i) {row : List Int} (hr : row ∈ rows) : (((List.range m).filter fun i => posAt row i).map fun i => (regAt regs i).2).sum ≤ totalR regs := by
  have := disj_sum (T := totalR regs) (((List.range m).filter fun i => posAt row i).map fun i => regAt regs i) (fun x hx => by
    obtain ⟨i, hi, rfl⟩ := List.mem_map.1 hx
    have hi := List.mem_range.1 (List.mem_filter.1 hi).1
    have h1 := f.base i hi
    have h2 := f.size i hi
    have h3 := hpk i
    exact ⟨h1, by omega, fin_total f hi⟩) (by
    rw [List.pairwise_map]
    refine ((List.nodup_range (n := m)).sublist List.filter_sublist).imp_of_mem fun {i j} hi hj hne => ?_
    obtain ⟨hi, pi⟩ := List.mem_filter.1 hi
    obtain ⟨hj, pj⟩ := List.mem_filter.1 hj
    have hi := List.mem_range.1 hi
    have hj := List.mem_range.1 hj
    refine f.apart i hi j hj ((cl_iff hi hj hne).2 ?_)
    unfold meets
    rw [List.any_eq_true]
    exact ⟨row, hr, by rw [pi, pj]; rfl⟩) (total_pos _)
  rwa [List.map_map] at this
/-- what is placed passes -/
theorem fin_check {N : Int} {arcs : List Arc} {zs : List Int} {regs : List Pr} (hl : lookE N arcs zs = 0) (f : Fin (along N arcs zs).2 arcs.length (maxes (along N arcs zs).2) regs) (ht : totalR regs ≤ 1024) : checkE N arcs zs regs (totalR regs) = 0 := by
  have hal : (along N arcs zs).1 = 0 := by
    refine Decidable.byContradiction fun q => ?_
    unfold lookE at hl
    rw [if_pos q] at hl
    exact q hl
  obtain ⟨pks, pkb⟩ := look_peaks hal
  unfold checkE planE
  rw [if_neg (by rw [hl]; decide), if_neg (by rw [f.len]; exact fun q => q rfl)]
  have hreg : regE regs (maxes (along N arcs zs).2) = 0 := by
    have key : ∀ (rs : List Pr) (pk : List Int), rs.length = pk.length → (∀ i, i < rs.length → 0 ≤ (rs.getD i (0, 0)).1 ∧ 0 ≤ (rs.getD i (0, 0)).2 ∧ (rs.getD i (0, 0)).1 + (rs.getD i (0, 0)).2 ≤ 1024 ∧ pk.getD i 0 ≤ (rs.getD i (0, 0)).2) → regE rs pk = 0 := by
      intro rs
      induction rs with
      | nil => intro pk _ _; simp [regE]
      | cons x rs ih =>
        intro pk hl h
        cases pk with
        | nil => cases hl
        | cons p pk =>
          have h0 := h 0 (by simp)
          have h0 : 0 ≤ x.1 ∧ 0 ≤ x.2 ∧ x.1 + x.2 ≤ 1024 ∧ p ≤ x.2 := h0
          unfold regE
          rw [if_neg (by omega), if_neg (by omega)]
          exact ih pk (by simpa using hl) fun i hi => h (i + 1) (by simpa using hi)
    refine key regs _ (by rw [f.len, pks.len]) fun i hi => ?_
    have hi : i < arcs.length := by rw [f.len] at hi; exact hi
    have h1 := f.base i hi
    have h2 := f.size i hi
    have h3 := fin_total f hi
    have h4 := (pkb i hi).1
    unfold regAt pkAt at *
    exact ⟨h1, by omega, by omega, by omega⟩
  rw [if_neg (by omega), if_neg (by omega), if_neg (by omega), if_neg]
  intro hq
  rw [List.any_eq_true] at hq
  obtain ⟨p, hp, hh⟩ := hq
  obtain ⟨i, j, rfl, a, b, _⟩ := pairs_mem.1 hp
  have := f.apart i (by omega) j b (.inl hp)
  unfold hitR at hh
  simp only [Int.toNat_natCast] at hh
  unfold regAt at this
  rw [this] at hh
  cases hh
end Go.Sx
