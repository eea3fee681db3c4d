/- Layer 19: the closed examples. Conditions: none. -/
import Derived.Test.YthibgmkobcbhhaaM19J
import Derived.Test.YthibgmkobcbhhaaM19K
namespace Go.Sx
open Go.Proofs Go.Sort
set_option maxRecDepth 100000
theorem ex_along : along 2 exArcs [0, 1, 1] = (0, [[0, 2], [2, 0], [1, 1], [0, 2]]) := by decide +kernel
theorem ex_look : lookE 2 exArcs [0, 1, 1] = 0 := by decide +kernel
theorem ex_look2 : lookE 2 exArcs [0, 1] = 181 := by decide +kernel
theorem ex_pairs : pairsR (along 2 exArcs [0, 1, 1]).2 exArcs.length = [(0, 1)] := by decide +kernel
theorem ex_max : maxes (along 2 exArcs [0, 1, 1]).2 = [2, 2] := by decide +kernel
theorem ex_check1 : checkE 2 exArcs [0, 1, 1] [(0, 2), (1, 2)] 3 = 192 := by decide +kernel
theorem ex_check2 : checkE 2 exArcs [0, 1, 1] [(3, 2), (0, 3)] 5 = 0 := by decide +kernel
theorem ex_stab : StabOk 2 [2, 2] fun os => os = [0, 1] := by
  intro h q X F kk c d f A cap hr _
  have ht : Tab h 1 A 2 ([0, 1].map fun z : Nat => [iv (z : Int)]) := by
    have := RowAt.one (l := [0, 1]) hr
    exact this
  refine (stable36 f (by decide) A 2 cap [0, 1] ht (by decide) (by decide) (fun i hi => by
    have : i = 0 := by simp at hi; omega
    subst this
    show ¬ cmpI 2 2 < 0
    decide)).mono ?_
  rintro v h' ⟨rfl, rfl⟩
  exact ⟨rfl, [0, 1], .refl _, rfl, hr, fun _ _ => rfl⟩
theorem run_inv {ps : List Pr} {pk : List Int} {m : Nat} {os : List Nat} {regs : List Pr} {plc : List Bool} (r : Run ps pk m os regs plc) : (os = [] ∧ regs = List.replicate m (0, 0) ∧ plc = List.replicate m false) ∨
    ∃ (os' : List Nat) (a : Nat) (regs' : List Pr) (plc' : List Bool) (ys : List Pr), os = os' ++ [a] ∧ Run ps pk m os' regs' plc' ∧ Sorted (Go.Proofs.ltOf cfB) (busyR (nearR ps a) regs' plc') ys ∧ regs = regs'.set a (foldB (pk.getD a 0) ys) ∧ plc = plc'.set a true := by
  cases r with
  | nil => exact .inl ⟨rfl, rfl, rfl⟩
  | step a ys h hs => exact .inr ⟨_, a, _, _, ys, rfl, h, hs, rfl, rfl⟩
theorem ex_run {regs : List Pr} {plc : List Bool} (r : Run [(0, 1)] [2, 2] 2 [0, 1] regs plc) : regs = [(0, 2), (2, 2)] := by
  rcases run_inv r with ⟨e, _⟩ | ⟨os, a, regs1, plc1, ys, e, r1, s1, rfl, rfl⟩
  · cases e
  obtain ⟨rfl, e⟩ := List.append_inj' (s₁ := [0]) (t₁ := [1]) e rfl
  obtain rfl : 1 = a := by simpa using e
  rcases run_inv r1 with ⟨e, _⟩ | ⟨os, a, regs2, plc2, ys2, e, r2, s2, rfl, rfl⟩
  · cases e
  obtain ⟨rfl, e⟩ := List.append_inj' (s₁ := []) (t₁ := [0]) e rfl
  obtain rfl : 0 = a := by simpa using e
  rcases run_inv r2 with ⟨_, rfl, rfl⟩ | ⟨os, a, regs3, plc3, ys3, e, _⟩
  · have h2 : ys2 = [] := by
      have := s2.perm.length_eq
      exact List.eq_nil_of_length_eq_zero (by rw [this]; decide)
    subst h2
    have hb : busyR (nearR [((0 : Int), (1 : Int))] ((1 : Nat) : Int)) ((List.replicate 2 ((0 : Int), (0 : Int))).set 0 (foldB (([2, 2] : List Int).getD 0 0) [])) ((List.replicate 2 false).set 0 true) = [(0, 2)] := by decide +kernel
    rw [hb] at s1
    have h1 : ys = [(0, 2)] := List.perm_singleton.1 s1.perm
    subst h1
    decide +kernel
  · exact absurd e (by simp)
theorem exClash (h : Hp) (A : Option Addr) (b : Nat) (ht : Tab h 5 A 2 (exArcs.map Arc.cells)) (hb : h b = none) :
    Fn Try.prog 11 #[netV 2 A 2 2, .slice (some ⟨b, 0, none⟩) 3 3] (h.put b (.cells #[iv 0, iv 1, iv 1] 3 (0, 0))) fun v h' => (∃ E c, v = .tuple #[.slice E 1 c, iv 0] ∧ Tab h' 2 E 1 ([((0 : Int), (1 : Int))].map pc)) ∧ h.le h' := by
  refine (clash11 2 2 2 exArcs A _ 3 3 [0, 1, 1] _ (ht.mono (Hp.le_put hb)) (by decide) (litNums put_at rfl)).mono ?_
  rintro v h' ⟨l, _, g⟩
  rw [ex_pairs] at g
  obtain ⟨E, c, rfl, ro, _⟩ := g (by rw [ex_along])
  exact ⟨⟨E, c, rfl, ro.tab2⟩, Hp.le_trans (Hp.le_put hb) l⟩
theorem exPlace (h : Hp) (A : Option Addr) (b : Nat) (ht : Tab h 5 A 2 (exArcs.map Arc.cells)) (hb : h b = none) :
    Fn Try.prog 17 #[netV 2 A 2 2, .slice (some ⟨b, 0, none⟩) 3 3] (h.put b (.cells #[iv 0, iv 1, iv 1] 3 (0, 0))) fun v h' => (∃ g, v = .tuple #[regV (some g) 2 2 4, iv 0] ∧ Tab h' 2 (some g) 2 ([((0 : Int), (2 : Int)), (2, 2)].map pc)) ∧ h.le h' := by
  refine (place17 2 2 2 exArcs A _ 3 3 [0, 1, 1] _ (ht.mono (Hp.le_put hb)) (by decide) (litNums put_at rfl) (fun os => os = [0, 1]) fun _ => by rw [ex_max]; exact ex_stab).mono ?_
  rintro v h' ⟨l, _, g⟩
  obtain ⟨os, regs, plc, _, rfl, run, _, k⟩ := g ex_look
  rw [ex_pairs, ex_max] at run
  have := ex_run run
  subst this
  obtain ⟨gA, rfl, t⟩ := k (by decide)
  exact ⟨⟨gA, rfl, t⟩, Hp.le_trans (Hp.le_put hb) l⟩
theorem exPlace2 (h : Hp) (A : Option Addr) (b : Nat) (ht : Tab h 5 A 2 (exArcs.map Arc.cells)) (hb : h b = none) :
    Fn Try.prog 17 #[netV 2 A 2 2, .slice (some ⟨b, 0, none⟩) 2 2] (h.put b (.cells #[iv 0, iv 1] 3 (0, 0))) fun v h' => v = .tuple #[regV none 0 0 0, iv 181] ∧ h.le h' := by
  refine (place17 2 2 2 exArcs A _ 2 2 [0, 1] _ (ht.mono (Hp.le_put hb)) (by decide) (litNums put_at rfl) (fun _ => True) fun q => absurd q (by rw [ex_look2]; decide)).mono ?_
  rintro v h' ⟨l, g, _⟩
  rw [ex_look2] at g
  exact ⟨g (by decide), Hp.le_trans (Hp.le_put hb) l⟩
theorem exCheck (h : Hp) (A P : Option Addr) (b : Nat) (ht : Tab h 5 A 2 (exArcs.map Arc.cells)) (hb : h b = none) (pn pcap : Nat) (rs : List Pr) (t : Int) (hp : Tab h 2 P pn (rs.map pc)) :
    Fn Try.prog 22 #[netV 2 A 2 2, regV P pn pcap t, .slice (some ⟨b, 0, none⟩) 3 3] (h.put b (.cells #[iv 0, iv 1, iv 1] 3 (0, 0))) fun v h' => v = iv (checkE 2 exArcs [0, 1, 1] rs t) ∧ h.le h' := by
  refine (check22 2 2 2 exArcs A _ 3 3 [0, 1, 1] _ (ht.mono (Hp.le_put hb)) (by decide) (litNums put_at rfl) P pn pcap rs t (hp.mono (Hp.le_put hb))).mono ?_
  rintro v h' ⟨rfl, l⟩
  exact ⟨rfl, Hp.le_trans (Hp.le_put hb) l⟩
theorem awake14 (h : Hp) : Fn Try.prog 14 #[] h fun r h' => r = .bool true ∧ h.le h' := by
  refine Fn.intro (args := []) mix14 Try.func14 rfl (by decide) Try.ntmps14 rfl (low14 rfl) rfl ?_
  conv => whnf
  refine .done (.mk _ (two24 h) ?_)
  rintro _ h1 ⟨A1, rfl, l1, t1⟩
  conv => whnf
  refine .mk fun b1 hb1 => ?_
  conv => whnf
  refine .done (.mk _ (exClash h1 A1 b1 t1 hb1) ?_)
  rintro _ h2 ⟨⟨E2, c2, rfl, tE⟩, l2⟩
  conv => whnf
  refine .done (.mk _ (two24 h2) ?_)
  rintro _ h3 ⟨A3, rfl, l3, t3⟩
  conv => whnf
  refine .mk fun b3 hb3 => ?_
  conv => whnf
  refine .done (.mk _ (exPlace h3 A3 b3 t3 hb3) ?_)
  rintro _ h4 ⟨⟨g4, rfl, t4⟩, l4⟩
  conv => whnf
  refine .done (.mk _ (two24 h4) ?_)
  rintro _ h5 ⟨A5, rfl, l5, t5⟩
  conv => whnf
  refine .mk fun b5 hb5 => ?_
  conv => whnf
  refine .done (.mk _ (exPlace2 h5 A5 b5 t5 hb5) ?_)
  rintro _ h6 ⟨rfl, l6⟩
  conv => whnf
  refine .done (.mk _ (two24 h6) ?_)
  rintro _ h7 ⟨A7, rfl, l7, t7⟩
  conv => whnf
  refine .done (.mk _ (plan25 0 2 1 2 3 h7) ?_)
  rintro _ h8 ⟨P8, rfl, l8, t8⟩
  conv => whnf
  refine .mk fun b8 hb8 => ?_
  conv => whnf
  refine .done (.mk _ (exCheck h8 A7 P8 b8 (t7.mono l8) hb8 2 2 [(0, 2), (1, 2)] 3 t8) ?_)
  rintro _ h9 ⟨rfl, l9⟩
  rw [ex_check1]
  conv => whnf
  refine .done (.mk _ (two24 h9) ?_)
  rintro _ h10 ⟨A10, rfl, l10, t10⟩
  conv => whnf
  refine .done (.mk _ (plan25 3 2 0 3 5 h10) ?_)
  rintro _ h11 ⟨P11, rfl, l11, t11⟩
  conv => whnf
  refine .mk fun b11 hb11 => ?_
  conv => whnf
  refine .done (.mk _ (exCheck h11 A10 P11 b11 (t10.mono l11) hb11 2 2 [(3, 2), (0, 3)] 5 t11) ?_)
  rintro _ h12 ⟨rfl, l12⟩
  rw [ex_check2]
  have l412 : h4.le h12 := Hp.le_trans l5 (Hp.le_trans l6 (Hp.le_trans l7 (Hp.le_trans l8 (Hp.le_trans l9 (Hp.le_trans l10 (Hp.le_trans l11 l12))))))
  have l212 : h2.le h12 := Hp.le_trans l3 (Hp.le_trans l4 l412)
  obtain ⟨gE, hgE⟩ := tE.ad (by decide)
  conv => whnf
  refine .mk gE hgE (by decide) (by decide) ?_
  conv => whnf
  refine .hp (pc (0, 1)) rfl ((tE.mono l212).row hgE (i := 0) rfl) ?_
  conv => whnf
  refine .mk _ (plan25 0 2 2 2 4 h12) ?_ ?_
  · rintro _ _ ⟨_, _, l, _⟩; exact l
  rintro _ h13 ⟨P13, rfl, l13, t13⟩
  conv => whnf
  refine .mk _ (samePlan32 (some g4) P13 2 2 2 2 [(0, 2), (2, 2)] [(0, 2), (2, 2)] 4 4 h13 (t4.mono (Hp.le_trans l412 l13)) t13 (by decide)) ?_ ?_
  · rintro _ _ ⟨rfl, rfl⟩; exact Hp.le_refl _
  rintro _ _ ⟨rfl, rfl⟩
  rw [decide_eq_true ⟨rfl, rfl⟩]
  conv => whnf
  refine .done ⟨rfl, ?_⟩
  exact Hp.le_trans l1 (Hp.le_trans (Hp.le_trans l2 l212) l13)
end Go.Sx
namespace Go.Sx
open Go.Proofs Go.Sort
set_option maxRecDepth 100000
/-- the heap with the order's row written anew -/
def hS (h0 : Hp) (b : Nat) (tl : List Value) (os : List Nat) : Hp := h0.put b (.cells ((os.map fun z : Nat => iv (z : Int)) ++ tl).toArray 3 (0, 0))
theorem hS_at (h0 : Hp) (b : Nat) (tl : List Value) (os : List Nat) : hS h0 b tl os b = some (.cells ((os.map fun z : Nat => iv (z : Int)) ++ tl).toArray 3 (0, 0)) := put_at
theorem ldS {h0 : Hp} {b : Nat} {tl : List Value} {os : List Nat} {z : Int} {j : Nat} (hz : z = (j : Nat)) (hj : j < os.length) : (hS h0 b tl os).cell? ((Addr.mk b 0 none).add (z.toNat * 1)) = some (iv (os[j] : Nat)) := by
  subst hz
  rw [Int.toNat_natCast, Nat.mul_one, add_lit, Nat.zero_add]
  unfold Hp.cell?
  simp only [hS_at]
  simp only [List.getElem?_toArray]
  rw [List.getElem?_append_left (by simpa using hj), List.getElem?_map, List.getElem?_eq_getElem hj]
  rfl
theorem over_set : ∀ (cs : List Value) (j : Nat) (v : Value), j < cs.length → over cs j [v] = some (cs.set j v)
  | [], _, _, h => absurd h (Nat.not_lt_zero _)
  | _ :: _, 0, _, _ => by simp [over]
  | c :: cs, j + 1, v, h => by
    have := over_set cs j v (Nat.lt_of_succ_lt_succ h)
    simp only [over, this, List.set_cons_succ]
theorem stS {h0 : Hp} {b : Nat} {tl : List Value} {os : List Nat} {z : Int} {j v : Nat} {L : List LE} {K : List LE → Hp → Prop} (hz : z = (j : Nat)) (hj : j < os.length) (k : K L (hS h0 b tl (os.set j v))) :
    EvStore L (hS h0 b tl os) ((Addr.mk b 0 none).add (z.toNat * 1)) [iv (v : Nat)] K := by
  subst hz
  refine .hp b j 3 _ _ (by rw [Int.toNat_natCast, Nat.mul_one, add_lit, Nat.zero_add]) (hS_at _ _ _ _) (over_set _ j _ (by simp; omega)) ?_
  unfold hS at k ⊢
  rw [Hp.put_put, List.set_append_left _ _ (by simpa using hj)]
  rw [List.map_set] at k
  exact k
/-- two places change their numbers -/
def swp (os : List Nat) (i j : Nat) : List Nat := (os.set i (os.getD j 0)).set j (os.getD i 0)
theorem swp_perm {os : List Nat} {i j : Nat} (hi : i < os.length) (hj : j < os.length) : (swp os i j).Perm os := by
  unfold swp
  rw [List.getD_eq_getElem?_getD, List.getD_eq_getElem?_getD, List.getElem?_eq_getElem hi, List.getElem?_eq_getElem hj]
  exact List.set_set_perm hi hj
theorem swp_eq {os : List Nat} {i j : Nat} (hi : i < os.length) (hj : j < os.length) : (os.set i os[j]).set j os[i] = swp os i j := by
  unfold swp
  rw [List.getD_eq_getElem?_getD, List.getD_eq_getElem?_getD, List.getElem?_eq_getElem hi, List.getElem?_eq_getElem hj]
  rfl
abbrev fnP (q : Nat) : Value := .func (.func 37) #[] #[.pointer (some ⟨q, 0, none⟩)]
def Sw (h0 : Hp) (b : Nat) (tl : List Value) (os : List Nat) (v : Value) (h' : Hp) : Prop := v = .tuple #[] ∧ ∃ os' : List Nat, os'.Perm os ∧ h' = hS h0 b tl os'
theorem swap104 {h0 : Hp} {b : Nat} {tl : List Value} {q m cap : Nat} (hm : m ≤ 1000000) (os : List Nat) (hos : os.length = m) (x y n : Int) (h0x : 0 ≤ x) (h0y : 0 ≤ y) (h0n : 0 ≤ n) (hx : x + n ≤ m) (hy : y + n ≤ m) :
    Fn Try.prog 104 #[.slice (some ⟨b, 0, none⟩) m cap, iv x, iv y, iv n, fnP q] (hS h0 b tl os) fun v h' => Sw h0 b tl os v h' := by
  obtain ⟨x, rfl⟩ := Int.eq_ofNat_of_zero_le h0x
  obtain ⟨y, rfl⟩ := Int.eq_ofNat_of_zero_le h0y
  obtain ⟨n, rfl⟩ := Int.eq_ofNat_of_zero_le h0n
  refine Fn.intro (args := [.slice (some ⟨b, 0, none⟩) m cap, iv x, iv y, iv n, fnP q]) mix14 Try.func104 rfl (by decide) Try.ntmps104 rfl (low104 rfl) rfl ?_
  conv => whnf
  refine .mk (Nat × List Nat) [0, 1, 2, 3, 10] (fun (i, _) => [.v (.slice (some ⟨b, 0, none⟩) m cap), .v (iv x), .v (iv y), .v (iv n), .v (iv i)]) (fun _ => []) (fun (i, ys) h' => i ≤ n ∧ ys.Perm os ∧ h' = hS h0 b tl ys) (fun (i, _) => n - i) (0, os) (fun (_, _) => rfl) ⟨Nat.zero_le _, .refl _, rfl⟩ rfl rfl ?_
  rintro ⟨i, ys⟩ e h' ⟨hi, hp, rfl⟩
  have hyl : ys.length = m := by rw [hp.length_eq, hos]
  conv => whnf
  refine br_dec (fun u => ?_) (fun u => ?_)
  · have hi' : i < n := by omega
    conv => whnf
    refine .ok (by omega) (by omega) ?_
    conv => whnf
    refine .ok (by omega) (by omega) ?_
    conv => whnf
    refine .ok (by omega) (by omega) ?_
    conv => whnf
    refine .mk _ rfl (by omega) (by omega) ?_
    conv => whnf
    refine .hp _ (ldS (j := y + i) (by omega) (by omega)) ?_
    conv => whnf
    refine .ok (by omega) (by omega) ?_
    conv => whnf
    refine .mk _ rfl (by omega) (by omega) ?_
    conv => whnf
    refine .hp _ (ldS (j := x + i) (by omega) (by omega)) ?_
    conv => whnf
    refine .mk _ rfl (by omega) (by omega) ?_
    conv => whnf
    refine stS (j := x + i) (v := ys[y + i]) (by omega) (by omega) ?_
    conv => whnf
    refine .mk _ rfl (by omega) (by omega) ?_
    conv => whnf
    refine stS (j := y + i) (v := ys[x + i]) (by omega) (by simp; omega) ?_
    have sw := swp_perm (os := ys) (i := x + i) (j := y + i) (by omega) (by omega)
    have se : (ys.set (x + i) ys[y + i]).set (y + i) ys[x + i] = swp ys (x + i) (y + i) := by
      unfold swp
      rw [List.getD_eq_getElem?_getD, List.getD_eq_getElem?_getD, List.getElem?_eq_getElem (by omega), List.getElem?_eq_getElem (by omega)]
      rfl
    rw [se]
    conv => whnf
    refine .ok (by omega) (by omega) ?_
    conv => whnf
    exact ⟨(i + 1, _), rfl, rfl, ⟨hi', sw.trans hp, rfl⟩, by show n - (i + 1) < n - i; omega⟩
  · conv => whnf
    exact .done ⟨rfl, ys, hp, rfl⟩
theorem rot97 {h0 : Hp} {b : Nat} {tl : List Value} {q m cap : Nat} (hm : m ≤ 1000000) (os : List Nat) (hos : os.length = m) (x y n : Int) (h0x : 0 ≤ x) (hxy : x < y) (hyn : y < n) (hn : n ≤ m) :
    Fn Try.prog 97 #[.slice (some ⟨b, 0, none⟩) m cap, iv x, iv y, iv n, fnP q] (hS h0 b tl os) fun v h' => Sw h0 b tl os v h' := by
  refine Fn.intro (args := [.slice (some ⟨b, 0, none⟩) m cap, iv x, iv y, iv n, fnP q]) mix14 Try.func97 rfl (by decide) Try.ntmps97 rfl (low97 rfl) rfl ?_
  conv => whnf
  refine .ok (by omega) (by omega) ?_
  conv => whnf
  refine .ok (by omega) (by omega) ?_
  conv => whnf
  refine .mk (Int × Int × List Nat) [0, 2, 4, 10, 11] (fun (i, j, _) => [.v (.slice (some ⟨b, 0, none⟩) m cap), .v (iv y), .v (fnP q), .v (iv i), .v (iv j)]) (fun _ => []) (fun (i, j, ys) h' => 1 ≤ i ∧ 1 ≤ j ∧ i ≤ y ∧ y + j ≤ m ∧ ys.Perm os ∧ h' = hS h0 b tl ys) (fun (i, j, _) => (i + j).toNat) (y - x, n - y, os) (fun (_, _, _) => rfl) ⟨by omega, by omega, by omega, by omega, .refl _, rfl⟩ rfl rfl ?_
  rintro ⟨i, j, ys⟩ e h' ⟨hi, hj, hiy, hjm, hp, rfl⟩
  have hyl : ys.length = m := by rw [hp.length_eq, hos]
  conv => whnf
  refine br_dec (fun u => ?_) (fun u => ?_)
  · conv => whnf
    refine br_dec (fun u2 => ?_) (fun u2 => ?_)
    · conv => whnf
      refine .ok (by omega) (by omega) ?_
      conv => whnf
      refine .done (.mk _ (swap104 hm ys hyl (y - i) y j (by omega) (by omega) (by omega) (by omega) (by omega)) ?_)
      rintro _ _ ⟨rfl, ys', hp', rfl⟩
      conv => whnf
      refine .ok (by omega) (by omega) ?_
      conv => whnf
      exact ⟨(i - j, j, ys'), rfl, rfl, ⟨by omega, hj, by omega, hjm, hp'.trans hp, rfl⟩, by show (i - j + j).toNat < (i + j).toNat; omega⟩
    · conv => whnf
      refine .ok (by omega) (by omega) ?_
      conv => whnf
      refine .ok (by omega) (by omega) ?_
      conv => whnf
      refine .ok (by omega) (by omega) ?_
      conv => whnf
      refine .done (.mk _ (swap104 hm ys hyl (y - i) (y + j - i) i (by omega) (by omega) (by omega) (by omega) (by omega)) ?_)
      rintro _ _ ⟨rfl, ys', hp', rfl⟩
      conv => whnf
      refine .ok (by omega) (by omega) ?_
      conv => whnf
      exact ⟨(i, j - i, ys'), rfl, rfl, ⟨hi, by omega, hiy, by omega, hp'.trans hp, rfl⟩, by show (i + (j - i)).toNat < (i + j).toNat; omega⟩
  · conv => whnf
    refine .ok (by omega) (by omega) ?_
    conv => whnf
    refine .done (.mk _ (swap104 hm ys hyl (y - i) y i (by omega) (by omega) (by omega) (by omega) (by omega)) ?_)
    rintro _ _ ⟨rfl, ys', hp', rfl⟩
    conv => whnf
    exact .done ⟨rfl, ys', hp'.trans hp, rfl⟩
theorem ins77 {h0 : Hp} {b : Nat} {tl : List Value} {q m cap : Nat} {X F : Option Addr} {k c d : Nat} {pk : List Int} (hm : m ≤ 1000000) (hF : ∀ ys, Facts (hS h0 b tl ys) q X F k c m d pk) (os : List Nat) (hos : os.length = m) (hx : ∀ x ∈ os, x < m) (x y : Int) (h0x : 0 ≤ x) (hxy : x ≤ y) (hy : y ≤ m) :
    Fn Try.prog 77 #[.slice (some ⟨b, 0, none⟩) m cap, iv x, iv y, fnP q] (hS h0 b tl os) fun v h' => Sw h0 b tl os v h' := by
  refine Fn.intro (args := [.slice (some ⟨b, 0, none⟩) m cap, iv x, iv y, fnP q]) mix14 Try.func77 rfl (by decide) Try.ntmps77 rfl (low77 rfl) rfl ?_
  conv => whnf
  refine .ok (by omega) (by omega) ?_
  conv => whnf
  refine .mk (Int × List Nat) [0, 1, 2, 3, 8] (fun (i, _) => [.v (.slice (some ⟨b, 0, none⟩) m cap), .v (iv x), .v (iv y), .v (fnP q), .v (iv i)]) (fun _ => []) (fun (i, ys) h' => x + 1 ≤ i ∧ i ≤ m + 1 ∧ ys.Perm os ∧ h' = hS h0 b tl ys) (fun (i, _) => (y - i).toNat) (x + 1, os) (fun (_, _) => rfl) ⟨by omega, by omega, .refl _, rfl⟩ rfl rfl ?_
  rintro ⟨i, ys⟩ e h' ⟨hi, him, hp, rfl⟩
  conv => whnf
  refine br_dec (fun u => ?_) (fun u => ?_)
  · conv => whnf
    refine .mk (Int × List Nat) [0, 1, 2, 3, 8, 9] (fun (j, _) => [.v (.slice (some ⟨b, 0, none⟩) m cap), .v (iv x), .v (iv y), .v (fnP q), .v (iv i), .v (iv j)]) (fun _ => []) (fun (j, zs) h' => x ≤ j ∧ j ≤ i ∧ zs.Perm os ∧ h' = hS h0 b tl zs) (fun (j, _) => (j - x).toNat) (i, ys) (fun (_, _) => rfl) ⟨by omega, by omega, hp, rfl⟩ rfl rfl ?_
    rintro ⟨j, zs⟩ e2 h2 ⟨hj, hji, hp2, rfl⟩
    have hzl : zs.length = m := by rw [hp2.length_eq, hos]
    have hxz : ∀ x ∈ zs, x < m := fun x hx2 => hx x (hp2.mem_iff.1 hx2)
    conv => whnf
    refine br_dec (fun w => ?_) (fun w => ?_)
    · obtain ⟨jn, rfl⟩ := Int.eq_ofNat_of_zero_le (show 0 ≤ j by omega)
      conv => whnf
      refine .mk _ rfl (by omega) (by omega) ?_
      conv => whnf
      refine .hp _ (ldS (j := jn) (by omega) (by omega)) ?_
      conv => whnf
      refine .ok (by omega) (by omega) ?_
      conv => whnf
      refine .mk _ rfl (by omega) (by omega) ?_
      conv => whnf
      refine .hp _ (ldS (j := jn - 1) (by omega) (by omega)) ?_
      conv => whnf
      refine .mk _ (place37 (hF zs) hm (hxz _ (List.getElem_mem _)) (hxz _ (List.getElem_mem _))) ?_ ?_
      · rintro _ _ ⟨rfl, rfl⟩; exact Hp.le_refl _
      rintro _ _ ⟨rfl, rfl⟩
      conv => whnf
      refine br_dec (fun w2 => ?_) (fun w2 => ?_)
      · conv => whnf
        refine .ok (by omega) (by omega) ?_
        conv => whnf
        refine .ok (by omega) (by omega) ?_
        conv => whnf
        refine .mk _ rfl (by omega) (by omega) ?_
        conv => whnf
        refine .hp _ (ldS (j := jn - 1) (by omega) (by omega)) ?_
        conv => whnf
        refine .mk _ rfl (by omega) (by omega) ?_
        conv => whnf
        refine .hp _ (ldS (j := jn) (by omega) (by omega)) ?_
        conv => whnf
        refine .mk _ rfl (by omega) (by omega) ?_
        conv => whnf
        refine stS (j := jn) (v := zs[jn - 1]) (by omega) (by omega) ?_
        conv => whnf
        refine .mk _ rfl (by omega) (by omega) ?_
        conv => whnf
        refine stS (j := jn - 1) (v := zs[jn]) (by omega) (by simp; omega) ?_
        have sw := swp_perm (os := zs) (i := jn) (j := jn - 1) (by omega) (by omega)
        rw [swp_eq (by omega) (by omega)]
        conv => whnf
        refine .ok (by omega) (by omega) ?_
        conv => whnf
        exact ⟨((jn : Int) - 1, _), rfl, rfl, ⟨by omega, by omega, sw.trans hp2, rfl⟩, by show ((jn : Int) - 1 - x).toNat < ((jn : Int) - x).toNat; omega⟩
      · conv => whnf
        refine .ok (by omega) (by omega) ?_
        conv => whnf
        exact ⟨(i + 1, zs), rfl, rfl, ⟨by omega, by omega, hp2, rfl⟩, by show (y - (i + 1)).toNat < (y - i).toNat; omega⟩
    · conv => whnf
      refine .ok (by omega) (by omega) ?_
      conv => whnf
      exact ⟨(i + 1, zs), rfl, rfl, ⟨by omega, by omega, hp2, rfl⟩, by show (y - (i + 1)).toNat < (y - i).toNat; omega⟩
  · conv => whnf
    exact .done ⟨rfl, ys, hp, rfl⟩
end Go.Sx
namespace Go.Sx
open Go.Proofs Go.Sort
set_option maxRecDepth 100000
theorem fdiv2 (z : Int) : 2 * z.fdiv 2 ≤ z ∧ z ≤ 2 * z.fdiv 2 + 1 := by
  rw [Int.fdiv_eq_ediv_of_nonneg _ (by decide)]
  omega
noncomputable def sR3 : IR := .seq (.reg ir78_r44) (.cond (.t 213) (.reg ir78_r45) .skip)
noncomputable def sR2 : IR := .seq (.seq (.reg ir78_r42) (.cond (.t 199) (.reg ir78_r43) .skip)) sR3
noncomputable def sR1b : IR := .seq (.seq (.reg ir78_r40) (.cond (.t 185) (.reg ir78_r41) .skip)) sR2
noncomputable def sR1 : IR := .seq (.reg ir78_r39) sR1b
noncomputable def sR0 : IR := .seq (.reg ir78_r33) (.seq (.block 8 (.loop ir78_l5)) sR1)
/-- the merge's contract, of ranges shorter than a number -/
def SymTo (h0 : Hp) (b : Nat) (tl : List Value) (q m cap : Nat) (N : Nat) : Prop := ∀ (os : List Nat), os.length = m → (∀ x ∈ os, x < m) → ∀ x y z : Int, (z - x).toNat < N → 0 ≤ x → x < y → y < z → z ≤ m →
  Fn Try.prog 78 #[.slice (some ⟨b, 0, none⟩) m cap, iv x, iv y, iv z, fnP q] (hS h0 b tl os) fun v h' => Sw h0 b tl os v h'
theorem sym_r3 (Q : Post) (e : Env) {h0 : Hp} {b : Nat} {tl : List Value} {q m cap N : Nat} (hI : SymTo h0 b tl q m cap N) (os : List Nat) (hos : os.length = m) (hx : ∀ x ∈ os, x < m) (bb mid en : Int) (hm0 : 0 ≤ mid) (hN : (bb - mid).toNat < N) (hb : bb ≤ m)
    (he : [0, 3, 4, 18, 24].map e = [.v (.slice (some ⟨b, 0, none⟩) m cap), .v (iv bb), .v (fnP q), .v (iv mid), .v (iv en)])
    (hQ : ∀ e ys, List.Perm ys os → Q .normal e [] (hS h0 b tl ys)) : wpIR Try.prog 220 sR3 Q e [] (hS h0 b tl os) := by
  have hself := updL_self [0, 3, 4, 18, 24] e
  rw [he] at hself
  rw [← hself]
  conv => whnf
  refine br_dec (fun u => ?_) (fun u => ?_)
  · conv => whnf
    refine br_dec (fun u2 => ?_) (fun u2 => ?_)
    · conv => whnf
      refine .done (.mk _ (hI os hos hx mid en bb hN hm0 u u2 hb) ?_)
      rintro _ _ ⟨rfl, ys, hp, rfl⟩
      conv => whnf
      exact hQ _ ys hp
    · conv => whnf
      exact hQ _ os (.refl _)
  · conv => whnf
    exact hQ _ os (.refl _)
theorem sym_r2 (Q : Post) (e : Env) {h0 : Hp} {b : Nat} {tl : List Value} {q m cap N : Nat} (hI : SymTo h0 b tl q m cap N) (os : List Nat) (hos : os.length = m) (hx : ∀ x ∈ os, x < m) (a bb mid s en : Int) (ha : 0 ≤ a) (hm0 : 0 ≤ mid) (hN : (bb - mid).toNat < N) (hN2 : (mid - a).toNat < N) (hmb : mid ≤ m) (hb : bb ≤ m)
    (he : [0, 1, 3, 4, 18, 20, 24].map e = [.v (.slice (some ⟨b, 0, none⟩) m cap), .v (iv a), .v (iv bb), .v (fnP q), .v (iv mid), .v (iv s), .v (iv en)])
    (hQ : ∀ e ys, List.Perm ys os → Q .normal e [] (hS h0 b tl ys)) : wpIR Try.prog 220 sR2 Q e [] (hS h0 b tl os) := by
  have hself := updL_self [0, 1, 3, 4, 18, 20, 24] e
  rw [he] at hself
  rw [← hself]
  unfold sR2
  generalize hc : sR3 = c3
  conv => whnf
  refine br_dec (fun u => ?_) (fun u => ?_)
  · conv => whnf
    refine br_dec (fun u2 => ?_) (fun u2 => ?_)
    · conv => whnf
      refine .done (.mk _ (hI os hos hx a s mid hN2 ha u u2 hmb) ?_)
      rintro _ _ ⟨rfl, ys, hp, rfl⟩
      conv => whnf
      show wpIR Try.prog 220 c3 Q _ [] _
      subst hc
      exact sym_r3 Q _ hI ys (by rw [hp.length_eq, hos]) (fun x hx2 => hx x (hp.mem_iff.1 hx2)) bb mid en hm0 hN hb rfl fun e zs hz => hQ e zs (hz.trans hp)
    · conv => whnf
      show wpIR Try.prog 220 c3 Q _ [] _
      subst hc
      exact sym_r3 Q _ hI os hos hx bb mid en hm0 hN hb rfl hQ
  · conv => whnf
    show wpIR Try.prog 220 c3 Q _ [] _
    subst hc
    exact sym_r3 Q _ hI os hos hx bb mid en hm0 hN hb rfl hQ
theorem sym_c40 (Q : Post) (e : Env) {h0 : Hp} {b : Nat} {tl : List Value} {q m cap : Nat} (hm : m ≤ 1000000) (os : List Nat) (hos : os.length = m) (a mm bb mid s en : Int)
    (hs : 0 ≤ s) (hsn : en ≤ m)
    (he : [0, 1, 2, 3, 4, 18, 20, 24].map e = [.v (.slice (some ⟨b, 0, none⟩) m cap), .v (iv a), .v (iv mm), .v (iv bb), .v (fnP q), .v (iv mid), .v (iv s), .v (iv en)])
    (hQ : ∀ e ys, [0, 1, 3, 4, 18, 20, 24].map e = [.v (.slice (some ⟨b, 0, none⟩) m cap), .v (iv a), .v (iv bb), .v (fnP q), .v (iv mid), .v (iv s), .v (iv en)] → List.Perm ys os → Q .normal e [] (hS h0 b tl ys)) : wpIR Try.prog 220 (.seq (.reg ir78_r40) (.cond (.t 185) (.reg ir78_r41) .skip)) Q e [] (hS h0 b tl os) := by
  have hself := updL_self [0, 1, 2, 3, 4, 18, 20, 24] e
  rw [he] at hself
  rw [← hself]
  conv => whnf
  refine br_dec (fun u => ?_) (fun u => ?_)
  · conv => whnf
    refine br_dec (fun u2 => ?_) (fun u2 => ?_)
    · conv => whnf
      refine .done (.mk _ (rot97 hm os hos s mm en hs u u2 hsn) ?_)
      rintro _ _ ⟨rfl, ys, hp, rfl⟩
      conv => whnf
      exact hQ _ ys rfl hp
    · conv => whnf
      exact hQ _ os rfl (.refl _)
  · conv => whnf
    exact hQ _ os rfl (.refl _)
theorem sym_c39 (Q : Post) (e : Env) {h0 : Hp} {b : Nat} {tl : List Value} {q m cap : Nat} (os : List Nat) (a mm bb mid n s : Int)
    (hs : 0 ≤ s) (hn0 : 0 ≤ n) (hn : n ≤ 4000000) (hs2 : s ≤ 4000000)
    (he : [0, 1, 2, 3, 4, 18, 19, 20].map e = [.v (.slice (some ⟨b, 0, none⟩) m cap), .v (iv a), .v (iv mm), .v (iv bb), .v (fnP q), .v (iv mid), .v (iv n), .v (iv s)])
    (hQ : ∀ e, [0, 1, 2, 3, 4, 18, 20, 24].map e = [.v (.slice (some ⟨b, 0, none⟩) m cap), .v (iv a), .v (iv mm), .v (iv bb), .v (fnP q), .v (iv mid), .v (iv s), .v (iv (n - s))] → Q .normal e [] (hS h0 b tl os)) : wpIR Try.prog 220 (.reg ir78_r39) Q e [] (hS h0 b tl os) := by
  have hself := updL_self [0, 1, 2, 3, 4, 18, 19, 20] e
  rw [he] at hself
  rw [← hself]
  conv => whnf
  refine .ok (by omega) (by omega) ?_
  conv => whnf
  exact hQ _ rfl
theorem sym_r1 (Q : Post) (e : Env) {h0 : Hp} {b : Nat} {tl : List Value} {q m cap N : Nat} (hm : m ≤ 1000000) (hI : SymTo h0 b tl q m cap N) (os : List Nat) (hos : os.length = m) (hx : ∀ x ∈ os, x < m) (a mm bb mid n s : Int) (ha : 0 ≤ a) (hm0 : 0 ≤ mid) (hN : (bb - mid).toNat < N) (hN2 : (mid - a).toNat < N) (hmb : mid ≤ m) (hb : bb ≤ m)
    (hs : 0 ≤ s) (hsn : n - s ≤ m) (hn0 : 0 ≤ n) (hn : n ≤ 4000000) (hs2 : s ≤ 4000000)
    (he : [0, 1, 2, 3, 4, 18, 19, 20].map e = [.v (.slice (some ⟨b, 0, none⟩) m cap), .v (iv a), .v (iv mm), .v (iv bb), .v (fnP q), .v (iv mid), .v (iv n), .v (iv s)])
    (hQ : ∀ e ys, List.Perm ys os → Q .normal e [] (hS h0 b tl ys)) : wpIR Try.prog 220 sR1 Q e [] (hS h0 b tl os) := by
  refine sym_c39 (fun ex e L h => match ex with | .normal => wpIR Try.prog 220 sR1b Q e L h | ex => Q ex e L h) e os a mm bb mid n s hs hn0 hn hs2 he fun e1 he1 => ?_
  refine sym_c40 (fun ex e L h => match ex with | .normal => wpIR Try.prog 220 sR2 Q e L h | ex => Q ex e L h) e1 hm os hos a mm bb mid s (n - s) hs hsn he1 fun e2 ys he2 hp => ?_
  exact sym_r2 Q e2 hI ys (by rw [hp.length_eq, hos]) (fun x hx2 => hx x (hp.mem_iff.1 hx2)) a bb mid s (n - s) ha hm0 hN hN2 hmb hb he2 fun e zs hz => hQ e zs (hz.trans hp)
theorem sym_r0 (Q : Post) (e : Env) {h0 : Hp} {b : Nat} {tl : List Value} {q m cap N : Nat} {X F : Option Addr} {k c d : Nat} {pk : List Int} (hm : m ≤ 1000000) (hF : ∀ ys, Facts (hS h0 b tl ys) q X F k c m d pk) (hI : SymTo h0 b tl q m cap N) (os : List Nat) (hos : os.length = m) (hx : ∀ x ∈ os, x < m) (a mm bb mid n S R : Int)
    (ha : 0 ≤ a) (hm0 : 0 ≤ mid) (hN : (bb - mid).toNat < N) (hN2 : (mid - a).toNat < N) (hmb : mid ≤ m) (hb : bb ≤ m) (hS0 : 0 ≤ S) (hSR : S ≤ R) (hR : R ≤ m) (hSn : n - S ≤ m) (hRn : R ≤ n) (hn : n ≤ 2 * m)
    (he : [0, 1, 2, 3, 4, 18, 19, 20, 21].map e = [.v (.slice (some ⟨b, 0, none⟩) m cap), .v (iv a), .v (iv mm), .v (iv bb), .v (fnP q), .v (iv mid), .v (iv n), .v (iv S), .v (iv R)])
    (hQ : ∀ e ys, List.Perm ys os → Q .normal e [] (hS h0 b tl ys)) : wpIR Try.prog 220 sR0 Q e [] (hS h0 b tl os) := by
  have hself := updL_self [0, 1, 2, 3, 4, 18, 19, 20, 21] e
  rw [he] at hself
  rw [← hself]
  unfold sR0
  generalize hc : sR1 = c3
  conv => whnf
  refine .ok (by omega) (by omega) ?_
  conv => whnf
  refine .mk (Int × Int) [0, 1, 2, 3, 4, 18, 19, 20, 21, 22] (fun (s, r) => [.v (.slice (some ⟨b, 0, none⟩) m cap), .v (iv a), .v (iv mm), .v (iv bb), .v (fnP q), .v (iv mid), .v (iv n), .v (iv s), .v (iv r), .v (iv (n - 1))]) (fun _ => []) (fun (s, r) h' => S ≤ s ∧ s ≤ r ∧ r ≤ R ∧ h' = hS h0 b tl os) (fun (s, r) => (r - s).toNat) (S, R) (fun (_, _) => rfl) ⟨by omega, hSR, by omega, rfl⟩ rfl rfl ?_
  rintro ⟨s, r⟩ e2 h2 ⟨hs, hsr, hr, rfl⟩
  conv => whnf
  refine br_dec (fun u => ?_) (fun u => ?_)
  · have hd := fdiv2 (s + r)
    conv => whnf
    refine .ok (by omega) (by omega) ?_
    conv => whnf
    refine .mk (by omega) (by omega) ?_
    conv => whnf
    refine .mk (by omega) (by omega) ?_
    conv => whnf
    generalize (s + r).fdiv 2 = z at hd ⊢
    conv => whnf
    refine .ok (by omega) (by omega) ?_
    conv => whnf
    refine .mk _ rfl (by omega) (by omega) ?_
    conv => whnf
    refine .hp _ (ldS (j := (n - 1 - z).toNat) (by omega) (by omega)) ?_
    conv => whnf
    refine .mk _ rfl (by omega) (by omega) ?_
    conv => whnf
    refine .hp _ (ldS (j := z.toNat) (by omega) (by omega)) ?_
    conv => whnf
    refine .mk _ (place37 (hF os) hm (hx _ (List.getElem_mem _)) (hx _ (List.getElem_mem _))) ?_ ?_
    · rintro _ _ ⟨rfl, rfl⟩; exact Hp.le_refl _
    rintro _ _ ⟨rfl, rfl⟩
    conv => whnf
    refine br_intro (fun _ => ?_) (fun _ => ?_)
    · conv => whnf
      refine .ok (by omega) (by omega) ?_
      conv => whnf
      exact ⟨(z + 1, r), rfl, rfl, ⟨by omega, by omega, hr, rfl⟩, by show (r - (z + 1)).toNat < (r - s).toNat; omega⟩
    · conv => whnf
      exact ⟨(s, z), rfl, rfl, ⟨hs, by omega, by omega, rfl⟩, by show (z - s).toNat < (r - s).toNat; omega⟩
  · conv => whnf
    show wpIR Try.prog 220 c3 Q _ [] _
    subst hc
    exact sym_r1 Q _ hm hI os hos hx a mm bb mid n s ha hm0 hN hN2 hmb hb (by omega) (by omega) (by omega) (by omega) (by omega) rfl hQ
end Go.Sx
