/- PackMeets: the law's own function answers true. Conditions: none. -/
import Derived.Test.YthibgmkobcbhhaaLT3
import Derived.Test.YthibgmkobcbhhaaIr19L
namespace Go.Sx
open Go.Proofs Go.Sort
set_option maxRecDepth 100000
def hasP (ps : List Pr) (p : Pr) : Bool := ps.any fun x => decide (x.1 = p.1) && decide (x.2 = p.2)
theorem hasP_iff {ps : List Pr} {p : Pr} : hasP ps p = true ↔ p ∈ ps := by
  unfold hasP
  rw [List.any_eq_true]
  constructor
  · rintro ⟨x, hx, h⟩
    have : x = p := by simp at h; exact Prod.ext h.1 h.2
    rw [← this]; exact hx
  · intro h; exact ⟨p, h, by simp⟩
theorem hasP_snoc (ps : List Pr) (x p : Pr) : hasP (ps ++ [x]) p = (hasP ps p || (decide (x.1 = p.1) && decide (x.2 = p.2))) := by simp [hasP]
theorem meets_snoc (rows : List (List Int)) (r : List Int) (i j : Nat) : meets (rows ++ [r]) i j = (meets rows i j || (posAt r i && posAt r j)) := by simp [meets]
theorem lawT6 (N : Int) (A D : Option Addr) (n r cap cap2 : Nat) (arcs : List Arc) (zs : List Int) (a b : Int) (h : Hp) (ht : Tab h 5 A n (arcs.map Arc.cells)) (hz : Tab h 1 D r (zs.map fun z => [iv z]))
    (hn : n * 40 ≤ 140737488355328) (hr : r * 8 ≤ 140737488355328) :
    Fn Try.prog 6 #[netV N A n cap, .slice D r cap2, .agg #[iv a, iv b]] h fun v h' => v = .bool true ∧ h.le h' := by
  have hal : arcs.length = n := by simpa using ht.len
  refine Fn.intro (args := [netV N A n cap, .slice D r cap2, .agg #[iv a, iv b]]) mix14 Try.func6 rfl (by decide) Try.ntmps6 rfl (low6 rfl) rfl ?_
  conv => whnf
  refine .done (.mk _ (lentNet10 N A n cap arcs h ht hn) ?_)
  rintro _ h1 ⟨l1, A1, c1, rfl, t1⟩
  conv => whnf
  refine .done (.mk _ (ints24 D r cap2 zs h1 (hz.mono l1) hr) ?_)
  rintro _ h2 ⟨l2, D2, c2, rfl, t2, _⟩
  conv => whnf
  refine .done (.mk _ (clash11 N n c1 arcs A1 D2 r c2 zs h2 (t1.mono l2).tab hn t2.one) ?_)
  rintro _ h3 ok1
  obtain ⟨l3, hb3, hg3⟩ := ok1
  have l03 := Hp.le_trans l1 (Hp.le_trans l2 l3)
  by_cases he : (along N arcs zs).1 = 0
  · obtain ⟨E, ce, rfl, roE, _⟩ := hg3 he
    have hbnd := along_bnd he
    have hm := (chk_zero (along_chk he)).2.2.1
    have hsz := along_size N arcs zs
    conv => whnf
    refine .done (.mk _ (lentNet10 N A n cap arcs h3 (ht.mono l03) hn) ?_)
    rintro _ h4 ⟨l4, A4, c4, rfl, t4⟩
    conv => whnf
    refine .done (.mk _ (ints24 D r cap2 zs h4 (hz.mono (Hp.le_trans l03 l4)) hr) ?_)
    rintro _ h5 ⟨l5, D5, c5, rfl, t5, _⟩
    conv => whnf
    refine .done (.mk _ (along12 N n c4 arcs A4 D5 r c5 zs h5 (t4.mono l5).tab hn t5.one) ?_)
    rintro _ h6 ⟨l6, _, hg6⟩
    obtain ⟨_, X, rfl, ⟨B, cB, J, rfl, hra⟩, hX, _⟩ := hg6 he
    have hL := hra.lists.mono hX
    have hlen := hra.lens
    have l06 := Hp.le_trans l03 (Hp.le_trans l4 (Hp.le_trans l5 l6))
    have tE := (roE.mono (Hp.le_trans l4 (Hp.le_trans l5 l6))).tab2
    have hsrt := pairs_sorted (along N arcs zs).2 arcs.length
    have hmem : ∀ p : Pr, p ∈ pairsR (along N arcs zs).2 arcs.length ↔ ∃ i j : Nat, p = ((i : Int), (j : Int)) ∧ i < j ∧ j < arcs.length ∧ meets (along N arcs zs).2 i j = true := fun p => pairs_mem
    have hpl : (pairsR (along N arcs zs).2 arcs.length).length ≤ 9216 := by
      have := clR_len N arcs zs
      unfold clR at this
      rwa [if_pos he] at this
    generalize pairsR (along N arcs zs).2 arcs.length = ps at tE hsrt hmem hpl ⊢
    generalize (along N arcs zs).2 = rows at hL hlen hmem hsz ⊢
    have hrg : ∀ p ∈ ps, 0 ≤ p.1 ∧ p.1 < p.2 ∧ p.2 < arcs.length := fun p hp => by
      obtain ⟨i, j, rfl, q1, q2, _⟩ := (hmem p).1 hp
      exact ⟨by show (0 : Int) ≤ (i : Int); omega, by show (i : Int) < (j : Int); omega, by show (j : Int) < _; omega⟩
    generalize hc2 : IR.seq (.reg ir6_r20) (.block 2 (.loop ir6_l2)) = cc2
    conv => whnf
    refine .mk Nat [3, 7, 8, 9, 11, 13, 14] (fun k => [.p 0 0, .v (iv a), .v (iv b), .v (.slice E ps.length ce), .v (.slice B rows.length cB), .v (.bool (hasP (ps.take k) (a, b))), .v (iv k)])
      (fun _ => Lc N A n cap) (fun k h' => h' = h6 ∧ k ≤ ps.length) (fun k => ps.length - k) 0 (fun _ => rfl) ⟨rfl, Nat.zero_le _⟩ rfl rfl ?_
    rintro k e h' ⟨rfl, hk⟩
    conv => whnf
    refine br_dec (fun u => ?_) (fun u => ?_)
    · have hk' : k < ps.length := by omega
      obtain ⟨g, hg⟩ := tE.ad (by omega)
      obtain ⟨x, hx⟩ : ∃ x, x = ps[k] := ⟨_, rfl⟩
      have row : ∀ q (hq : q < ps.length), (ps.map pc)[q]? = some (pc ps[q]) := fun q hq => by rw [List.getElem?_map, List.getElem?_eq_getElem hq]; rfl
      have ld0 : ∀ q (hq : q < ps.length), h'.cell? ((g.add ((q : Int).toNat * 2)).add 0) = some (iv ps[q].1) := fun q hq => by
        rw [add_add, Int.toNat_natCast]; exact tE.cell g hg q _ (row q hq) 0 _ rfl
      have ld1 : ∀ q (hq : q < ps.length), h'.cell? ((g.add ((q : Int).toNat * 2)).add 1) = some (iv ps[q].2) := fun q hq => by
        rw [add_add, Int.toNat_natCast]; exact tE.cell g hg q _ (row q hq) 1 _ rfl
      have ldR : ∀ j v, [iv x.1, iv x.2][j]? = some v → h'.cell? ((g.add ((k : Int).toNat * 2)).add j) = some v := fun j v hv => by
        rw [Int.toNat_natCast]
        exact tE.row hg (i := k) (by rw [hx]; exact row k hk') j v hv
      obtain ⟨x0, x1, x2⟩ := hrg x (by rw [hx]; exact List.getElem_mem hk')
      have e1 : ps.take (k + 1) = ps.take k ++ [x] := by rw [hx]; exact take_succ' hk'
      have e2 : hasP (ps.take (k + 1)) (a, b) = (hasP (ps.take k) (a, b) || (decide (x.1 = a) && decide (x.2 = b))) := by rw [e1, hasP_snoc]
      have e3 : (decide (x.1 = a) && decide (x.2 = b)) = flip false (decide (x.1 = a) && (decide (x.2 = b) && true)) := by rw [Bool.and_true]; rfl
      have l0k := ld0 k hk'
      have l1k := ld1 k hk'
      rw [← hx] at l0k l1k
      conv => whnf
      refine .mk g hg (by omega) (by omega) ?_
      conv => whnf
      refine .hp (iv x.1) l0k ?_
      conv => whnf
      refine br_dec (fun w => absurd w (by omega)) (fun _ => ?_)
      conv => whnf
      refine .mk g hg (by omega) (by omega) ?_
      conv => whnf
      refine .hp (iv x.1) l0k ?_
      conv => whnf
      refine .mk g hg (by omega) (by omega) ?_
      conv => whnf
      refine .hp (iv x.2) l1k ?_
      conv => whnf
      refine br_dec (fun w => absurd w (by omega)) (fun _ => ?_)
      conv => whnf
      refine .mk g hg (by omega) (by omega) ?_
      conv => whnf
      refine .hp (iv x.2) l1k ?_
      conv => whnf
      refine br_dec (fun w => absurd w (by omega)) (fun _ => ?_)
      refine br_dec (fun w => ?_) (fun w => ?_)
      · have hq : k - 1 < ps.length := by omega
        have ord : PL ps[k - 1] x := by rw [hx]; exact List.pairwise_iff_getElem.1 hsrt (k - 1) k hq hk' (by omega)
        have tn : ((k : Int) - 1).toNat = k - 1 := by omega
        have m0 : h'.cell? ((g.add (((k : Int) - 1).toNat * 2)).add 0) = some (iv ps[k - 1].1) := by
          have := ld0 (k - 1) hq
          rw [Int.toNat_natCast] at this
          rw [tn]; exact this
        have m1 : h'.cell? ((g.add (((k : Int) - 1).toNat * 2)).add 1) = some (iv ps[k - 1].2) := by
          have := ld1 (k - 1) hq
          rw [Int.toNat_natCast] at this
          rw [tn]; exact this
        generalize ps[k - 1] = y at ord m0 m1
        unfold PL at ord
        conv => whnf
        refine .mk g hg (by omega) (by omega) ?_
        conv => whnf
        refine .hp (iv x.1) l0k ?_
        conv => whnf
        refine .ok (by omega) (by omega) ?_
        conv => whnf
        refine .mk g hg (by omega) (by omega) ?_
        conv => whnf
        refine .hp (iv y.1) m0 ?_
        conv => whnf
        refine br_dec (fun w => absurd w (by omega)) (fun _ => ?_)
        conv => whnf
        refine .mk g hg (by omega) (by omega) ?_
        conv => whnf
        refine .hp (iv x.1) l0k ?_
        conv => whnf
        refine .ok (by omega) (by omega) ?_
        conv => whnf
        refine .mk g hg (by omega) (by omega) ?_
        conv => whnf
        refine .hp (iv y.1) m0 ?_
        conv => whnf
        refine br_dec (fun w => ?_) (fun w => ?_)
        · conv => whnf
          refine .mk g hg (by omega) (by omega) ?_
          conv => whnf
          refine .hp (iv x.2) l1k ?_
          conv => whnf
          refine .ok (by omega) (by omega) ?_
          conv => whnf
          refine .mk g hg (by omega) (by omega) ?_
          conv => whnf
          refine .hp (iv y.2) m1 ?_
          conv => whnf
          refine br_dec (fun w => absurd w (by omega)) (fun _ => ?_)
          conv => whnf
          cases hs : hasP (List.take k ps) (a, b) with
          | false =>
            rw [hs, Bool.false_or] at e2
            conv => whnf
            refine .mk g hg (by omega) (by omega) ?_
            conv => whnf
            refine .hp (pc x) rfl ldR ?_
            conv => whnf
            refine .ok (by omega) (by omega) ?_
            conv => whnf
            refine ⟨k + 1, ?_, rfl, ⟨rfl, by omega⟩, by omega⟩
            rw [e2, e3]
            rfl
          | true =>
            rw [hs, Bool.true_or] at e2
            conv => whnf
            refine .ok (by omega) (by omega) ?_
            conv => whnf
            refine ⟨k + 1, ?_, rfl, ⟨rfl, by omega⟩, by omega⟩
            rw [e2]
            rfl
        · conv => whnf
          cases hs : hasP (List.take k ps) (a, b) with
          | false =>
            rw [hs, Bool.false_or] at e2
            conv => whnf
            refine .mk g hg (by omega) (by omega) ?_
            conv => whnf
            refine .hp (pc x) rfl ldR ?_
            conv => whnf
            refine .ok (by omega) (by omega) ?_
            conv => whnf
            refine ⟨k + 1, ?_, rfl, ⟨rfl, by omega⟩, by omega⟩
            rw [e2, e3]
            rfl
          | true =>
            rw [hs, Bool.true_or] at e2
            conv => whnf
            refine .ok (by omega) (by omega) ?_
            conv => whnf
            refine ⟨k + 1, ?_, rfl, ⟨rfl, by omega⟩, by omega⟩
            rw [e2]
            rfl
      · conv => whnf
        cases hs : hasP (List.take k ps) (a, b) with
        | false =>
          rw [hs, Bool.false_or] at e2
          conv => whnf
          refine .mk g hg (by omega) (by omega) ?_
          conv => whnf
          refine .hp (pc x) rfl ldR ?_
          conv => whnf
          refine .ok (by omega) (by omega) ?_
          conv => whnf
          refine ⟨k + 1, ?_, rfl, ⟨rfl, by omega⟩, by omega⟩
          rw [e2, e3]
          rfl
        | true =>
          rw [hs, Bool.true_or] at e2
          conv => whnf
          refine .ok (by omega) (by omega) ?_
          conv => whnf
          refine ⟨k + 1, ?_, rfl, ⟨rfl, by omega⟩, by omega⟩
          rw [e2]
          rfl
    · have hk' : k = ps.length := by omega
      subst hk'
      rw [List.take_length]
      have fin : ∀ h7, h'.le h7 → h.le h7 := fun h7 l => Hp.le_trans l06 l
      have out6 : (a < 0 ∨ b ≤ a ∨ (n : Int) ≤ b) → hasP ps (a, b) = false := fun w => by
        rw [Bool.eq_false_iff, ne_eq, hasP_iff]
        intro hp
        obtain ⟨y0, y1, y2⟩ := hrg _ hp
        omega
      have mt : ∀ i j : Nat, a = i → b = j → i < j → j < n → hasP ps (a, b) = meets rows i j := fun i j ea eb hij hjn => by
        rw [Bool.eq_iff_iff, hasP_iff, hmem]
        constructor
        · rintro ⟨p, q, e, _, _, h⟩
          rw [ea, eb] at e
          obtain ⟨e1, e2⟩ := Prod.mk.inj e
          rw [Int.ofNat_inj.1 e1, Int.ofNat_inj.1 e2]
          exact h
        · intro h
          exact ⟨i, j, by rw [ea, eb], hij, by omega, h⟩
      generalize hasP ps (a, b) = st at out6 mt ⊢
      conv => whnf
      refine br_dec (fun w => ?_) (fun w => ?_)
      · conv => whnf
        refine .done (.mk _ (awake14 _) ?_)
        rintro _ h7 ⟨rfl, l7⟩
        rw [out6 (.inl w)]
        conv => whnf
        exact .done ⟨rfl, fin _ l7⟩
      conv => whnf
      refine br_dec (fun w2 => ?_) (fun w2 => ?_)
      · conv => whnf
        refine .done (.mk _ (awake14 _) ?_)
        rintro _ h7 ⟨rfl, l7⟩
        rw [out6 (.inr (.inl w2))]
        conv => whnf
        exact .done ⟨rfl, fin _ l7⟩
      conv => whnf
      refine br_dec (fun w3 => ?_) (fun w3 => ?_)
      · conv => whnf
        refine .done (.mk _ (awake14 _) ?_)
        rintro _ h7 ⟨rfl, l7⟩
        rw [out6 (.inr (.inr w3))]
        conv => whnf
        exact .done ⟨rfl, fin _ l7⟩
      subst hc2
      obtain ⟨i, rfl⟩ := Int.eq_ofNat_of_zero_le (show 0 ≤ a by omega)
      obtain ⟨j, rfl⟩ := Int.eq_ofNat_of_zero_le (show 0 ≤ b by omega)
      have hmt := mt i j rfl rfl (by omega) (by omega)
      clear out6 mt
      conv => whnf
      refine .mk Nat [7, 8, 11, 13, 15, 16] (fun k => [.v (iv i), .v (iv j), .v (.slice B rows.length cB), .v (.bool st), .v (.bool (meets (rows.take k) i j)), .v (iv k)])
        (fun _ => Lc N A n cap) (fun k h2 => h2 = h' ∧ k ≤ rows.length) (fun k => rows.length - k) 0 (fun _ => rfl) ⟨rfl, Nat.zero_le _⟩ rfl rfl ?_
      rintro k e2 h2 ⟨rfl, hk2⟩
      conv => whnf
      refine br_dec (fun u2 => ?_) (fun u2 => ?_)
      · have hk' : k < rows.length := by omega
        obtain ⟨g, hg⟩ := hL.outer.ad (by omega)
        have hin := hL.inner k hk'
        have hlk := hlen k hk'
        have htk : rows.take (k + 1) = rows.take k ++ [rows.getD k []] := by
          rw [List.getD_eq_getElem?_getD, List.getElem?_eq_getElem hk']; exact take_succ' hk'
        obtain ⟨row, hrow⟩ : ∃ row, row = rows.getD k [] := ⟨_, rfl⟩
        rw [← hrow] at hin hlk htk
        have hm1 : meets (rows.take (k + 1)) i j = (meets (rows.take k) i j || (posAt row i && posAt row j)) := by rw [htk, meets_snoc]
        have hi : i < row.length := by omega
        have hj : j < row.length := by omega
        have p1 := posAt_is (row := row) (i := i) (by omega)
        have p2 := posAt_is (row := row) (i := j) (by omega)
        obtain ⟨g2, hg2⟩ := hin.ad (by omega)
        have ldO : h2.cell? (g.add ((k : Int).toNat * 1)) = some (.slice (J k).1 row.length (J k).2) := by
          rw [Int.toNat_natCast]
          exact hL.outer.one hg (map_range hk') (by rw [← hrow]; rfl)
        have ld : ∀ q (hq : q < row.length), h2.cell? (g2.add ((q : Int).toNat * 1)) = some (iv (row[q]'(by omega))) := fun q hq => by
          rw [Int.toNat_natCast]; exact hin.one hg2 (r := [iv (row[q]'(by omega))]) (by simp [hq]) rfl
        cases hs : meets (rows.take k) i j with
        | true =>
          rw [hs, Bool.true_or] at hm1
          conv => whnf
          refine .ok (by omega) (by omega) ?_
          conv => whnf
          exact ⟨k + 1, by rw [hm1]; rfl, rfl, ⟨rfl, hk'⟩, by omega⟩
        | false =>
          rw [hs, Bool.false_or] at hm1
          conv => whnf
          refine .mk g hg (by omega) (by omega) ?_
          conv => whnf
          refine .hp _ ldO ?_
          conv => whnf
          refine .mk g2 hg2 (by omega) (by omega) ?_
          conv => whnf
          refine .hp _ (ld i hi) ?_
          conv => whnf
          refine br_dec (fun u1 => ?_) (fun u1 => ?_)
          · conv => whnf
            refine .mk g hg (by omega) (by omega) ?_
            conv => whnf
            refine .hp _ ldO ?_
            conv => whnf
            refine .mk g2 hg2 (by omega) (by omega) ?_
            conv => whnf
            refine .hp _ (ld j hj) ?_
            conv => whnf
            refine .ok (by omega) (by omega) ?_
            conv => whnf
            rw [p1, p2, decide_eq_true u1, Bool.true_and] at hm1
            exact ⟨k + 1, by rw [hm1]; rfl, rfl, ⟨rfl, hk'⟩, by omega⟩
          · rw [p1, decide_eq_false u1, Bool.false_and] at hm1
            conv => whnf
            refine .ok (by omega) (by omega) ?_
            conv => whnf
            exact ⟨k + 1, by rw [hm1]; rfl, rfl, ⟨rfl, hk'⟩, by omega⟩
      · rw [List.take_of_length_le (by omega), ← hmt]
        conv => whnf
        refine .done (.mk _ (awake14 _) ?_)
        rintro _ h7 ⟨rfl, l7⟩
        conv => whnf
        refine .done ⟨?_, fin _ l7⟩
        cases st <;> rfl
  · obtain rfl := hb3 he
    conv => whnf
    refine .done (.mk _ (lentNet10 N A n cap arcs h3 (ht.mono l03) hn) ?_)
    rintro _ h4 ⟨l4, A4, c4, rfl, t4⟩
    conv => whnf
    refine .done (.mk _ (ints24 D r cap2 zs h4 (hz.mono (Hp.le_trans l03 l4)) hr) ?_)
    rintro _ h5 ⟨l5, D5, c5, rfl, t5, _⟩
    conv => whnf
    refine .done (.mk _ (along12 N n c4 arcs A4 D5 r c5 zs h5 (t4.mono l5).tab hn t5.one) ?_)
    rintro _ h6 ⟨l6, hb6, _⟩
    obtain rfl := hb6 he
    have l06 := Hp.le_trans l03 (Hp.le_trans l4 (Hp.le_trans l5 l6))
    conv => whnf
    refine br_dec (fun q => absurd rfl q) (fun _ => ?_)
    conv => whnf
    refine br_dec (fun _ => ?_) (fun q => absurd he q)
    conv => whnf
    refine .done (.mk _ (awake14 _) ?_)
    rintro _ h7 ⟨rfl, l7⟩
    conv => whnf
    exact .done ⟨rfl, Hp.le_trans l06 l7⟩
end Go.Sx
