/- PackPlaces: the law's own function answers true. Conditions: none. -/
import Derived.Test.YthibgmkobcbhhaaGreatZ20J
import Derived.Test.YthibgmkobcbhhaaGreatM19Y
import Derived.Test.YthibgmkobcbhhaaGreatIr19L
namespace Go.Sx
open Go.Proofs Go.Sort
set_option maxRecDepth 100000
theorem RowAt.delE {h : Hp} {ety size n cap : Nat} {A E : Option Addr} {xs : List Value} (x : RowAt h ety size A n cap xs) (hne : ∀ g1 g2, A = some g1 → E = some g2 → g1.block ≠ g2.block) : RowAt (delA h E) ety size A n cap xs := by
  cases E with
  | none => exact x
  | some g => exact x.del (B := some g) hne
theorem RowAt.in_ {h : Hp} {ety size n cap : Nat} {A : Option Addr} {xs : List Value} (x : RowAt h ety size A n cap xs) : ∀ g, A = some g → h g.block ≠ none := by
  intro g hg
  rcases x.2 with ⟨e, _⟩ | ⟨b, cur, e, hc, _⟩
  · rw [e] at hg; cases hg
  · rw [e] at hg
    injection hg with hg
    subst hg
    show h b ≠ none
    rw [hc]; simp
theorem lawT3 (N : Int) (A D : Option Addr) (n r cap cap2 : Nat) (arcs : List Arc) (zs : List Int) (h : Hp) (ht : Tab h 5 A n (arcs.map Arc.cells)) (hz : Tab h 1 D r (zs.map fun z => [iv z]))
    (hn : n * 40 ≤ 140737488355328) (hr : r * 8 ≤ 140737488355328) :
    Fn Tryz.prog 3 #[netV N A n cap, .slice D r cap2] h fun v h' => v = .bool true ∧ h.le h' := by
  have hst : lookE N arcs zs = 0 → StabOk arcs.length (maxes (along N arcs zs).2) fun os => Up (maxes (along N arcs zs).2) os := fun q => by
    have hal : (along N arcs zs).1 = 0 := by
      refine Decidable.byContradiction fun w => ?_
      unfold lookE at q
      rw [if_pos w] at q
      exact w q
    have hm := (chk_zero (along_chk hal)).2.2.1
    exact stab_up _ (by omega) _
  refine Fn.intro (args := [netV N A n cap, .slice D r cap2]) mix14 Tryz.func3 rfl (by decide) Tryz.ntmps3 rfl (low3 rfl) rfl ?_
  conv => whnf
  refine .done (.mk _ (lentNet10 N A n cap arcs h ht hn) ?_)
  rintro _ h1 ⟨l1, A1, c1, rfl, t1⟩
  conv => whnf
  refine .done (.mk _ (lent11 D r cap2 zs h1 (hz.mono l1) hr) ?_)
  rintro _ h2 ⟨l2, D2, rfl, t2⟩
  have l02 := Hp.le_trans l1 l2
  conv => whnf
  refine .done (.mk _ (place17x N n c1 arcs A1 D2 r (r + 4) zs h2 (t1.mono l2).tab hn t2.tab _ hst) ?_)
  rintro _ h3 ok1
  obtain ⟨l3, ps, t, err, E, d1, hcl, rfl, roA, fA⟩ := ok1.all (fun _ h => h)
  conv => whnf
  refine .done (.mk _ (place17x N n c1 arcs A1 D2 r (r + 4) zs h3 (t1.mono (Hp.le_trans l2 l3)).tab hn (t2.mono l3).tab _ hst) ?_)
  rintro _ h4 ok2
  obtain ⟨l4, ps2, t', err', F, d2, _, rfl, roB, fB⟩ := ok2.all (fun _ h => h)
  obtain ⟨rfl, rfl, rfl⟩ := d1.uniq d2
  have l04 := Hp.le_trans l02 (Hp.le_trans l3 l4)
  obtain ⟨os, hos⟩ : ∃ os, lookE N arcs zs = 0 → os.Perm (List.range arcs.length) ∧ Up (maxes (along N arcs zs).2) os := by
    rcases d1 with ⟨q, _⟩ | ⟨_, os, _, _, p, u, _⟩
    · exact ⟨[], fun w => absurd w q⟩
    · exact ⟨os, fun _ => ⟨p, u⟩⟩
  conv => whnf
  refine .done (.mk _ (refPlace8 N n cap arcs A D r cap2 zs h4 (ht.mono l04) hn (hz.mono l04) os hos) ?_)
  rintro _ h5 ok3
  have ok3' : PlaceOkX h4 N arcs zs (fun o => Up (maxes (along N arcs zs).2) o) _ h5 := ⟨ok3.1, ok3.2.1, fun q => by
    obtain ⟨o, a, b, c, d, e⟩ := ok3.2.2 q
    exact ⟨o, a, b, c, by subst d; exact (hos q).2, e⟩⟩
  obtain ⟨l5, ps2, t', err', G, d3, _, rfl, roC, fC⟩ := ok3'.all (fun _ h => h)
  obtain ⟨rfl, rfl, rfl⟩ := d1.uniq d3
  clear d1 d2 d3 ok1 ok2 ok3 ok3' hst hos
  have roA5 := roA.mono (Hp.le_trans l4 l5)
  have roB5 := roB.mono l5
  conv => whnf
  refine br_dec (fun q => absurd rfl q) (fun _ => ?_)
  conv => whnf
  refine br_dec (fun q => absurd rfl q) (fun _ => ?_)
  conv => whnf
  refine .done (.mk _ (samePlan32 E G _ _ _ _ ps ps t t h5 roA5.tab2 roC.tab2 (by omega)) ?_)
  rintro _ _ ⟨rfl, rfl⟩
  rw [decide_eq_true ⟨rfl, rfl⟩]
  conv => whnf
  refine .done (.mk _ (samePlan32 F G _ _ _ _ ps ps t t _ roB5.tab2 roC.tab2 (by omega)) ?_)
  rintro _ h5 ⟨rfl, rfl⟩
  rw [decide_eq_true ⟨rfl, rfl⟩]
  have d2 : h2.le (delA h5 E) := delA_none (Hp.le_trans l3 (Hp.le_trans l4 l5)) fA
  have bD : RowAt (delA h5 E) 37 2 F ps.length ps.length (ps.map pc).flatten := roB5.delE fun g1 g2 e1 e2 q => by
    have := fB g1 e1
    rw [q] at this
    exact roA.in_ g2 e2 this
  have cD : RowAt (delA h5 E) 37 2 G ps.length ps.length (ps.map pc).flatten := roC.delE fun g1 g2 e1 e2 q => by
    have := fC g1 e1
    rw [q] at this
    exact (roA.mono l4).in_ g2 e2 this
  generalize hHX : delA h5 E = HX at d2 bD cD
  have l0X := Hp.le_trans l02 d2
  generalize hc2 : IR.seq (.reg ir3_r13) (.block 2 (.loop ir3_l2)) = cc2
  conv => whnf
  refine .shf (.abs 37 2 E ps.length ps.length _ roA5 (.done ?_))
  rw [hHX]
  refine .mk (Nat × List Pr) [1, 2, 5, 6, 7, 9, 11, 13] (fun (i, _) => [.v (.slice D r cap2), .p 0 0, .p 1 0, .v (.slice D2 r (r + 4)), .p 2 0, .p 3 0, .p 4 0, .v (iv i)])
    (fun (_, ws) => [.own [.v (iv N), .v (.slice A n cap)] 24, .own [.v (iv N), .v (.slice A1 n c1)] 24, .own [.v (.slice E ps.length ps.length), .v (iv t)] 30, .own [.v (.slice F ps.length ps.length), .v (iv t)] 30, .own [.v (.slice G ps.length ps.length), .v (iv t)] 30, .row 37 2 E ps.length ps.length (ws.map pc).flatten]) (fun (i, ws) h' => h' = HX ∧ i ≤ ps.length ∧ ws.length = ps.length) (fun (i, _) => ps.length - i) (0, ps) (fun (_, _) => rfl) ⟨rfl, Nat.zero_le _, rfl⟩ rfl rfl ?_
  rintro ⟨i, ws⟩ e h' ⟨rfl, hi, hws⟩
  conv => whnf
  refine br_dec (fun u => ?_) (fun u => ?_)
  · have hi' : i < ps.length := by omega
    obtain ⟨g, hg⟩ := roA5.tab2.ad (by omega)
    subst hg
    conv => whnf
    refine .mk g rfl (by omega) (by omega) ?_
    conv => whnf
    refine .row 5 37 2 g ps.length ps.length _ _ (i * 2) rfl (by rw [Int.toNat_natCast]) (over_pc ws i (-7, 0) (by omega)) ?_
    conv => whnf
    refine .ok (by omega) (by omega) ?_
    conv => whnf
    exact ⟨(i + 1, ws.set i (-7, 0)), rfl, rfl, ⟨rfl, hi', by simp [hws]⟩, by show ps.length - (i + 1) < ps.length - i; omega⟩
  · conv => whnf
    subst hc2
    conv => whnf
    refine .mk (Nat × List Value × Option Addr × Nat × Nat) [1, 2, 5, 6, 7, 9, 11, 14] (fun (k, _, _, _, _) => [.v (.slice D r cap2), .p 0 0, .p 1 0, .v (.slice D2 r (r + 4)), .p 2 0, .p 3 0, .p 4 0, .v (iv k)])
      (fun (k, ws, E, q, c) => [.own [.v (iv N), .v (.slice A n cap)] 24, .own [.v (iv N), .v (.slice A1 n c1)] 24, .own [.v (.slice E q c), .v (iv t)] 30, .own [.v (.slice F ps.length ps.length), .v (iv t)] 30, .own [.v (.slice G ps.length ps.length), .v (iv t)] 30, .row 37 2 E q c ws]) (fun (k, _, _, q, _) h2 => h2 = h' ∧ k ≤ 16 ∧ q ≤ 9216 + k) (fun (k, _, _, _, _) => 16 - k) (0, (ws.map pc).flatten, E, ps.length, ps.length) (fun (_, _, _, _, _) => rfl) ⟨rfl, by decide, by omega⟩ rfl rfl ?_
    rintro ⟨k, ws, E2, q, c⟩ e2 h2 ⟨rfl, hk, hq⟩
    conv => whnf
    refine br_dec (fun u2 => ?_) (fun u2 => ?_)
    · have hk' : k < 16 := by omega
      conv => whnf
      refine .done (.old 5 _ [iv (-8), iv 0] rfl rfl (by intro u hu; simp at hu; rcases hu with rfl | rfl <;> rfl) (by simp only [maxLen]; omega) (by omega) fun E3 c3 _ => ?_)
      conv => whnf
      refine .ok (by omega) (by omega) ?_
      conv => whnf
      exact ⟨(k + 1, ws ++ [iv (-8), iv 0], E3, q + 1, c3), rfl, rfl, ⟨rfl, hk', by omega⟩, by show 16 - (k + 1) < 16 - k; omega⟩
    · conv => whnf
      refine .done (.mk _ (awake14 _) ?_)
      rintro _ h6 ⟨rfl, l6⟩
      conv => whnf
      refine .done (.mk _ (samePlan32 F G _ _ _ _ ps ps t t h6 (bD.mono l6).tab2 (cD.mono l6).tab2 (by omega)) ?_)
      rintro _ _ ⟨rfl, rfl⟩
      rw [decide_eq_true ⟨rfl, rfl⟩]
      conv => whnf
      refine .done (.mk _ (keptNet17 N N A1 A n c1 n cap arcs arcs _ (t1.mono (Hp.le_trans l2 (Hp.le_trans d2 l6))) (ht.mono (Hp.le_trans l0X l6)) (by omega) ⟨rfl, rfl⟩) ?_)
      rintro _ _ ⟨rfl, rfl⟩
      conv => whnf
      refine .done (.mk _ (kept18 D2 D r cap2 zs _ (t2.mono (Hp.le_trans d2 l6)) (hz.mono (Hp.le_trans l0X l6)) hr) ?_)
      rintro _ _ ⟨rfl, rfl⟩
      conv => whnf
      exact .done ⟨rfl, Hp.le_trans l0X l6⟩
end Go.Sx
