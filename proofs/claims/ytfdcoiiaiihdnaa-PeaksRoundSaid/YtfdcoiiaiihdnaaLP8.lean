/- PeaksRound: the law's own function answers true. Conditions: none. -/
import Derived.Test.YtfdcoiiaiihdnaaC9
import Derived.Test.YtfdcoiiaiihdnaaN18L
namespace Go.Sx
open Go.Proofs
theorem RowAt.cap_le {h : Hp} {ety size n cap : Nat} {A : Option Addr} {xs : List Value} (x : RowAt h ety size A n cap xs) : n ≤ cap := by
  rcases x.2 with ⟨_, h1, h2⟩ | ⟨_, _, _, _, h1, _⟩ <;> omega
theorem ListsAt.take {h : Hp} {A : Option Addr} {rows : List (List Int)} {J : Nat → Option Addr × Nat} (x : ListsAt h A rows J) {k : Nat} (hk : k ≤ rows.length) : ListsAt h A (rows.take k) J := by
  have hl : (rows.take k).length = k := by simp; omega
  have hg : ∀ i, i < k → (rows.take k).getD i [] = rows.getD i [] := fun i hi => by
    simp only [List.getD_eq_getElem?_getD, List.getElem?_take, if_pos hi]
  refine ⟨?_, fun i hi => ?_⟩
  · rw [hl]
    have := x.outer.take (k := k) hk
    rw [← List.map_take, List.take_range, Nat.min_eq_left hk] at this
    rw [List.map_congr_left fun i hi => by rw [hg i (List.mem_range.1 hi)]]
    exact this
  · rw [hl] at hi
    rw [hg i hi]; exact x.inner i (by omega)
theorem ListsAt.drop {h : Hp} {A : Option Addr} {rows : List (List Int)} {J : Nat → Option Addr × Nat} (x : ListsAt h A rows J) {k : Nat} (hk : k ≤ rows.length) : ListsAt h (A.map (·.add (k * 1))) (rows.drop k) fun i => J (k + i) := by
  have hl : (rows.drop k).length = rows.length - k := by simp
  have hg : ∀ i, (rows.drop k).getD i [] = rows.getD (k + i) [] := fun i => by
    simp only [List.getD_eq_getElem?_getD, List.getElem?_drop]
  refine ⟨?_, fun i hi => ?_⟩
  · rw [hl]
    have := x.outer.drop (k := k) (fun _ => rfl) hk
    rw [← List.map_drop] at this
    have e : (List.range (rows.length - k)).map (fun i => [Value.slice (J (k + i)).1 ((rows.drop k).getD i []).length (J (k + i)).2]) = ((List.range rows.length).drop k).map fun i => [Value.slice (J i).1 (rows.getD i []).length (J i).2] := by
      apply List.ext_getElem
      · simp
      · intro i h1 h2
        simp [List.getElem?_drop]
    rw [e]; exact this
  · rw [hg i]; exact x.inner _ (by omega)
theorem map_add0 (A : Option Addr) : A.map (fun a => a.add (0 * 1)) = A := by cases A <;> simp [add_zero]
theorem lawP8 (N z : Int) (A D : Option Addr) (n r cap cap2 : Nat) (arcs : List Arc) (zs : List Int) (h : Hp) (ht : Tab h 5 A n (arcs.map Arc.cells)) (hz : Tab h 1 D r (zs.map fun z => [iv z]))
    (hn : n * 40 ≤ 140737488355328) (hr : r * 8 ≤ 140737488355328) (hcap : r ≤ cap2) :
    Fn Try.prog 8 #[netV N A n cap, .slice D r cap2, iv z] h fun v h' => v = .bool true ∧ h.le h' := by
  obtain rfl : arcs.length = n := by simpa using ht.len
  have hzl : zs.length = r := by simpa using hz.len
  refine Fn.intro (args := [netV N A arcs.length cap, .slice D r cap2, iv z]) mix14 Try.func8 rfl (by decide) Try.ntmps8 rfl (low8 rfl) rfl ?_
  conv => whnf
  refine .done (.mk _ (lentNet10 N A arcs.length cap arcs h ht hn) ?_)
  rintro _ h1 ⟨l1, A1, c1, rfl, t1⟩
  conv => whnf
  refine .done (.mk _ (ints24 D r cap2 zs h1 (hz.mono l1) hr) ?_)
  rintro _ h2 ⟨l2, D2, d2, rfl, q2, _⟩
  conv => whnf
  refine .done (.mk _ (along12 N arcs.length c1 arcs A1 D2 r d2 zs h2 (t1.mono l2).tab (by omega) q2.one) ?_)
  rintro v1 h3 ⟨l3, b3, g3⟩
  have ll3 := l1.trans' (l2.trans' l3)
  by_cases he : (along N arcs zs).1 = 0
  · obtain ⟨v1, X1, rfl, ⟨B, c, J, rfl, q1⟩, x1, _⟩ := g3 he
    have hrl := q1.lists.mono x1
    have hcB := q1.outer.cap_le
    have hal := along_len he
    have hlens : ∀ x ∈ (along N arcs zs).2, x.length = arcs.length := fun x hx => by
      obtain ⟨i, hi, rfl⟩ := List.getElem_of_mem hx
      have := q1.lens i hi
      rw [List.getD_eq_getElem?_getD, List.getElem?_eq_getElem hi] at this
      exact this
    have hnil := along_ne he
    have htk := fun k => along_take he k
    generalize hrows : (along N arcs zs).2 = rows at *
    conv => whnf
    refine .ok (by omega) (by omega) ?_
    conv => whnf
    refine br_dec (fun q => by omega) (fun _ => ?_)
    obtain ⟨k, hk, hkr⟩ : ∃ k : Nat, min (max z 0) (r : Int) = k ∧ k ≤ r := ⟨(min (max z 0) (r : Int)).toNat, by omega, by omega⟩
    conv => whnf
    rw [hk]
    refine .mk 0 k rfl rfl (Nat.zero_le _) (by omega) fun D3 hD1 hD2 => ?_
    obtain rfl : D3 = D := by
      by_cases q : 0 < cap2
      · rw [hD1 q, map_add0]
      · exact hD2 (by omega)
    simp only [Nat.sub_zero]
    conv => whnf
    refine .mk _ (lentNet10 N A arcs.length cap arcs h3 (ht.mono ll3) hn) (fun _ _ q => q.1) ?_
    rintro _ h4 ⟨l4, A4, c4, rfl, t4⟩
    conv => whnf
    have hzk : Tab h 1 D3 k ((zs.take k).map fun z => [iv z]) := by
      have := hz.take (k := k) hkr
      rwa [← List.map_take] at this
    refine .mk _ (ints24 D3 k cap2 (zs.take k) h4 (hzk.mono (ll3.trans' l4)) (by omega)) (fun _ _ q => q.1) ?_
    rintro _ h5 ⟨l5, D5, d5, rfl, q5, _⟩
    conv => whnf
    refine .mk _ (along12 N arcs.length c4 arcs A4 D5 k d5 (zs.take k) h5 (t4.mono l5).tab (by omega) q5.one) (fun _ _ q => q.1) ?_
    rintro v6 h6 ⟨l6, b6, g6⟩
    rw [htk k] at b6 g6
    have hk1 : (rows.take (k + 1)).length = k + 1 := by simp; omega
    obtain ⟨v6, X6, rfl, ⟨B6, c6, J6, ev6, q6⟩, x6, _⟩ := g6 rfl
    have ev6 : v6 = .slice B6 (rows.take (k + 1)).length c6 := ev6
    have q6 : RowsAt X6 arcs.length (rows.take (k + 1)) B6 c6 J6 := q6
    rw [hk1] at ev6
    subst ev6
    have hrl6 := q6.lists.mono x6
    have ll6 := ll3.trans' (l4.trans' (l5.trans' l6))
    have hr6 := hrl.mono (l4.trans' (l5.trans' l6))
    have hrt := hr6.take (k := k + 1) (by omega)
    conv => whnf
    refine .ok (by omega) (by omega) ?_
    conv => whnf
    refine .mk 0 (k + 1) rfl rfl (Nat.zero_le _) (by omega) fun B7 hB1 _ => ?_
    obtain rfl : B7 = B := by rw [hB1 (by omega), map_add0]
    conv => whnf
    have hsm : ∀ i, i < (rows.take (k + 1)).length → ((rows.take (k + 1)).getD i []).length ≤ 9223372036854775806 := fun i hi => by
      rw [q6.lens i hi]; omega
    have hs14 := sameLists14 B6 B7 c6 (c - 0) (rows.take (k + 1)) (rows.take (k + 1)) _ _ h6 hrl6 hrt (by rw [hk1]; omega) hsm
    rw [hk1] at hs14
    refine .done (.mk _ hs14 ?_)
    rintro _ h7 ⟨rfl, rfl⟩
    rw [decide_eq_true rfl]
    conv => whnf
    refine .done (.mk _ (lentNet10 N A arcs.length cap arcs h7 (ht.mono ll6) hn) ?_)
    rintro _ h8 ⟨l8, A8, c8, rfl, t8⟩
    conv => whnf
    refine .done (.mk _ (ints24 D3 r cap2 zs h8 (hz.mono (ll6.trans' l8)) hr) ?_)
    rintro _ h9 ⟨l9, D9, d9, rfl, q9, _⟩
    conv => whnf
    refine .done (.mk _ (home22 N arcs.length c8 arcs A8 D9 r d9 zs h9 (t8.mono l9).tab (by omega) q9.one) ?_)
    rintro _ h10 ⟨rfl, l10⟩
    have ll10 := ll6.trans' (l8.trans' (l9.trans' l10))
    have hr10 := hr6.mono (l8.trans' (l9.trans' l10))
    rw [he]
    cases hh : homeOf N arcs zs with
    | false =>
      conv => whnf
      refine .done (.mk _ (awake16 _) ?_)
      rintro _ h11 ⟨rfl, l11⟩
      conv => whnf
      exact .done ⟨rfl, ll10.trans' l11⟩
    | true =>
    conv => whnf
    refine br_dec (fun _ => ?_) (fun hlong => ?_)
    · conv => whnf
      refine .done (.mk _ (awake16 _) ?_)
      rintro _ h11 ⟨rfl, l11⟩
      conv => whnf
      exact .done ⟨rfl, ll10.trans' l11⟩
    obtain ⟨w1, w2, w3, w4, w5⟩ := along_twice he hh (by omega)
    rw [hrows] at w3 w4 w5
    conv => whnf
    refine .done (.fresh _ rfl rfl rfl ((hz.mono ll10).src _) (by rw [flat_nums]; exact nums_one zs) (by simp [maxLen]; omega) (by omega) fun E1 e1 _ => ?_)
    conv => whnf
    refine .done (.old 1 _ _ rfl ((hz.mono ll10).src _) (by rw [flat_nums]; exact nums_one zs) (by simp [maxLen]; omega) (by omega) fun E2 e2 _ => ?_)
    conv => whnf
    refine .done (.mk _ (lentNet10 N A arcs.length cap arcs h10 (ht.mono ll10) hn) ?_)
    rintro _ h11 ⟨l11, A11, c11, rfl, t11⟩
    conv => whnf
    refine .pub 1 3 1 E2 (r + r) e2 _ rfl fun h12 l12 hE _ => ?_
    have hE : RowAt h12 3 1 E2 (r + r) e2 ((zs.map fun z => [iv z]).flatten ++ (zs.map fun z => [iv z]).flatten) := hE
    rw [flat_nums, ← List.map_append] at hE
    refine .done (.mk _ (along12 N arcs.length c11 arcs A11 E2 (r + r) e2 (zs ++ zs) h12 (t11.mono l12).tab (by omega) hE.one) ?_)
    rintro v13 h13 ⟨l13, b13, g13⟩
    obtain ⟨v13, X13, rfl, ⟨B13, c13, J13, rfl, q13⟩, x13, _⟩ := g13 w1
    have hrl13 := q13.lists.mono x13
    have hc13 := q13.outer.cap_le
    generalize hrows2 : (along N arcs (zs ++ zs)).2 = rows2 at *
    have ll13 := ll10.trans' (l11.trans' (l12.trans' l13))
    conv => whnf
    refine .done (.mk _ (lentNet10 N A arcs.length cap arcs h13 (ht.mono ll13) hn) ?_)
    rintro _ h14 ⟨l14, A14, c14, rfl, t14⟩
    conv => whnf
    refine .done (.mk _ (ints24 D3 r cap2 zs h14 (hz.mono (ll13.trans' l14)) hr) ?_)
    rintro _ h15 ⟨l15, D15, d15, rfl, q15, _⟩
    conv => whnf
    refine .done (.mk _ (most19 N arcs.length c14 arcs A14 D15 r d15 zs h15 (t14.mono l15).tab (by omega) q15.one) ?_)
    rintro v16 h16 ⟨l16, b16, g16⟩
    obtain ⟨v16, X16, rfl, p16, x16, _⟩ := g16 he
    rw [hrows] at p16
    obtain ⟨g1, m1, rfl, pm1⟩ := p16.2 hnil
    have ll16 := ll13.trans' (l14.trans' (l15.trans' l16))
    conv => whnf
    refine .done (.mk _ (lentNet10 N A arcs.length cap arcs h16 (ht.mono ll16) hn) ?_)
    rintro _ h17 ⟨l17, A17, c17, rfl, t17⟩
    conv => whnf
    refine .done (.mk _ (most19 N arcs.length c17 arcs A17 E2 (r + r) e2 (zs ++ zs) h17 t17.tab (by omega) (hE.mono (l13.trans' (l14.trans' (l15.trans' (l16.trans' l17))))).one) ?_)
    rintro v18 h18 ⟨l18, b18, g18⟩
    obtain ⟨v18, X18, rfl, p18, x18, _⟩ := g18 w1
    rw [hrows2] at p18
    have hnil2 : rows2 ≠ [] := fun q => by rw [q] at w2; simp at w2
    obtain ⟨g2, m2, rfl, pm2⟩ := p18.2 hnil2
    have hmx := maxes_same hnil2 hnil (fun x hx => hlens x ((w5 x).1 hx)) w5
    rw [hmx] at pm2
    have ll18 := ll16.trans' (l17.trans' l18)
    conv => whnf
    refine .ok (by omega) (by omega) ?_
    conv => whnf
    refine .ok (by omega) (by omega) ?_
    conv => whnf
    refine br_dec (fun q => by omega) (fun _ => ?_)
    conv => whnf
    refine .done (.mk _ (awake16 _) ?_)
    rintro _ h19 ⟨rfl, l19⟩
    have hr19 := hr10.mono (l11.trans' (l12.trans' (l13.trans' (l14.trans' (l15.trans' (l16.trans' (l17.trans' (l18.trans' l19))))))))
    have h2_19 := hrl13.mono (l14.trans' (l15.trans' (l16.trans' (l17.trans' (l18.trans' l19)))))
    conv => whnf
    refine .ok (by omega) (by omega) ?_
    conv => whnf
    refine .mk 0 (r + 1) rfl rfl (Nat.zero_le _) (by omega) fun B20 hB20 _ => ?_
    obtain rfl : B20 = B13 := by rw [hB20 (by omega), map_add0]
    have t20 := h2_19.take (k := r + 1) (by omega)
    rw [← hzl, w3] at t20
    have hlr : rows.length = r + 1 := by omega
    have hsm2 : ∀ i, i < rows.length → (rows.getD i []).length ≤ 9223372036854775806 := fun i hi => by
      rw [q1.lens i hi]; omega
    have hs20 := sameLists14 B20 B7 (c13 - 0) c rows rows _ _ h19 t20 hr19 (by omega) hsm2
    rw [hlr] at hs20 ⊢
    conv => whnf
    refine .done (.mk _ hs20 ?_)
    rintro _ h20 ⟨rfl, rfl⟩
    rw [decide_eq_true rfl]
    conv => whnf
    refine .mk r rows2.length rfl rfl (by omega) (by omega) fun B21 hB21 _ => ?_
    obtain rfl := hB21 (by omega)
    have t21 := h2_19.drop (k := r) (by omega)
    rw [← hzl, w4] at t21
    have hs21 := sameLists14 _ B7 (c13 - r) c rows rows _ _ h20 t21 hr19 (by omega) hsm2
    rw [hlr, hzl] at hs21
    rw [show rows2.length - r = r + 1 by omega]
    conv => whnf
    refine .done (.mk _ hs21 ?_)
    rintro _ h21 ⟨rfl, rfl⟩
    rw [decide_eq_true rfl]
    conv => whnf
    have u1 := ((pm1.mono x16).mono (l17.trans' (l18.trans' l19))).one
    have u2 := ((pm2.mono x18).mono l19).one
    refine .done (.mk _ (same21 _ _ _ _ _ _ _ _ _ u1 u2 (by omega)) ?_)
    rintro _ h22 ⟨rfl, rfl⟩
    rw [decide_eq_true rfl]
    conv => whnf
    exact .done ⟨rfl, ll18.trans' l19⟩
  · obtain rfl := b3 he
    conv => whnf
    refine br_dec (fun _ => ?_) (fun q => absurd he q)
    conv => whnf
    refine .done (.mk _ (awake16 _) ?_)
    rintro _ h4 ⟨rfl, l4⟩
    conv => whnf
    exact .done ⟨rfl, ll3.trans' l4⟩
end Go.Sx
