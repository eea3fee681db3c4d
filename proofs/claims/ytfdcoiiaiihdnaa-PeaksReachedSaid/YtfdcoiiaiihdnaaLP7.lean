/- PeaksReached: the law's own function answers true. Conditions: none. -/
import Derived.Test.YtfdcoiiaiihdnaaN18L
namespace Go.Sx
open Go.Proofs
theorem lawP7 (N : Int) (A D : Option Addr) (n r cap cap2 : Nat) (arcs : List Arc) (zs : List Int) (h : Hp) (ht : Tab h 5 A n (arcs.map Arc.cells)) (hz : Tab h 1 D r (zs.map fun z => [iv z]))
    (hn : n * 40 ≤ 140737488355328) (hr : r * 8 ≤ 140737488355328) :
    Fn Try.prog 7 #[netV N A n cap, .slice D r cap2] h fun v h' => v = .bool true ∧ h.le h' := by
  obtain rfl : arcs.length = n := by simpa using ht.len
  refine Fn.intro (args := [netV N A arcs.length cap, .slice D r cap2]) mix14 Try.func7 rfl (by decide) Try.ntmps7 rfl (low7 rfl) rfl ?_
  conv => whnf
  refine .done (.mk _ (lentNet10 N A arcs.length cap arcs h ht hn) ?_)
  rintro _ h1 ⟨l1, A1, c1, rfl, t1⟩
  conv => whnf
  refine .done (.mk _ (ints24 D r cap2 zs h1 (hz.mono l1) hr) ?_)
  rintro _ h2 ⟨l2, D2, d2, rfl, q2, _⟩
  conv => whnf
  refine .done (.mk _ (along12 N arcs.length c1 arcs A1 D2 r d2 zs h2 (t1.mono l2).tab (by omega) q2.one) ?_)
  rintro v1 h3 ⟨l3, b3, g3⟩
  have ll3 := l1.trans' (l2.trans' l3)
  by_cases he : (along N arcs zs).1 = 0
  · obtain ⟨v1, X1, rfl, ⟨B, c, J, rfl, q1⟩, x1, _⟩ := g3 he
    have hlens : ∀ x ∈ (along N arcs zs).2, x.length = arcs.length := fun x hx => by
      obtain ⟨i, hi, rfl⟩ := List.getElem_of_mem hx
      have := q1.lens i hi
      rw [List.getD_eq_getElem?_getD, List.getElem?_eq_getElem hi] at this
      exact this
    have hrl := q1.lists.mono x1
    have hne := along_ne he
    have hmax := maxes_len hne hlens
    generalize hrows : (along N arcs zs).2 = rows at *
    conv => whnf
    refine .done (.mk _ (lentNet10 N A arcs.length cap arcs h3 (ht.mono ll3) hn) ?_)
    rintro _ h4 ⟨l4, A4, c4, rfl, t4⟩
    conv => whnf
    refine .done (.mk _ (ints24 D r cap2 zs h4 (hz.mono (ll3.trans' l4)) hr) ?_)
    rintro _ h5 ⟨l5, D5, d5, rfl, q5, _⟩
    conv => whnf
    refine .done (.mk _ (most19 N arcs.length c4 arcs A4 D5 r d5 zs h5 (t4.mono l5).tab (by omega) q5.one) ?_)
    rintro v6 h6 ⟨l6, b6, g6⟩
    obtain ⟨v6, X6, rfl, p6, x6, _⟩ := g6 he
    rw [hrows] at p6
    obtain ⟨gm, cm, rfl, pm⟩ := p6.2 hne
    have hmst := (pm.mono x6).one
    have ll6 := ll3.trans' (l4.trans' (l5.trans' l6))
    conv => whnf
    refine .done (.mk _ (lentNet10 N A arcs.length cap arcs h6 (ht.mono ll6) hn) ?_)
    rintro _ h7 ⟨l7, A7, c7, rfl, t7⟩
    conv => whnf
    refine .done (.mk _ (ints24 D r cap2 zs h7 (hz.mono (ll6.trans' l7)) hr) ?_)
    rintro _ h8 ⟨l8, D8, d8, rfl, q8, _⟩
    conv => whnf
    refine .done (.mk _ (home22 N arcs.length c7 arcs A7 D8 r d8 zs h8 (t7.mono l8).tab (by omega) q8.one) ?_)
    rintro _ h9 ⟨rfl, l9⟩
    have ll9 := ll6.trans' (l7.trans' (l8.trans' l9))
    rw [he]
    have hrl := hrl.mono (l4.trans' (l5.trans' (l6.trans' (l7.trans' (l8.trans' l9)))))
    have hmst := hmst.mono (l7.trans' (l8.trans' l9))
    have hrn : rows.length ≠ 0 := fun q => hne (List.eq_nil_of_length_eq_zero q)
    have hsz := along_size N arcs zs
    rw [hrows] at hsz
    conv => whnf
    refine br_dec (fun q => (q rfl).elim) (fun _ => ?_)
    conv => whnf
    refine br_dec (fun q => by omega) (fun _ => ?_)
    conv => whnf
    refine .mk Nat [5, 7, 9, 11] (fun i => [.v (.slice B rows.length c), .v (.slice (some gm) arcs.length cm), .v (.bool (homeOf N arcs zs)), .v (iv i)]) (fun _ => []) (fun i h' => h' = h9 ∧ i ≤ arcs.length) (fun i => arcs.length - i) 0 (fun _ => rfl) ⟨rfl, Nat.zero_le _⟩ rfl rfl ?_
    rintro i e h' ⟨rfl, hi⟩
    conv => whnf
    refine br_dec (fun u1 => ?_) (fun u1 => ?_)
    · have hi' : i < arcs.length := by omega
      have hmi : (maxes rows)[i]'(by omega) = (maxes rows).getD i 0 := by rw [List.getD_eq_getElem?_getD, List.getElem?_eq_getElem (by omega)]; rfl
      conv => whnf
      refine .mk (Nat × Bool) [5, 7, 9, 11, 12, 13] (fun (k, b) => [.v (.slice B rows.length c), .v (.slice (some gm) arcs.length cm), .v (.bool (homeOf N arcs zs)), .v (iv i), .v (.bool b), .v (iv k)]) (fun _ => []) (fun (k, b) h'' => h'' = h' ∧ k ≤ rows.length ∧ b = hit rows ((maxes rows).getD i 0) i k)
        (fun (k, _) => rows.length - k) (0, false) (fun (_, _) => rfl) ⟨rfl, Nat.zero_le _, (hit_zero _ _ _).symm⟩ rfl rfl ?_
      rintro ⟨k, b⟩ e2 h'' ⟨rfl, hk, hb⟩
      conv => whnf
      refine br_dec (fun u2 => ?_) (fun u2 => ?_)
      · have hk' : k < rows.length := by omega
        have hkl := hlens _ (List.getElem_mem hk')
        have hrk : rows.getD k [] = rows[k] := by rw [List.getD_eq_getElem?_getD, List.getElem?_eq_getElem hk']; rfl
        have hge := maxes_ge hi' hlens _ (List.getElem_mem hk')
        have hki : rows[k].getD i 0 = rows[k][i]'(by omega) := by rw [List.getD_eq_getElem?_getD, List.getElem?_eq_getElem (by omega)]; rfl
        have hst := hit_step (m := (maxes rows).getD i 0) (i := i) hk'
        rw [hrk, hki, ← hb] at hst
        rw [hki] at hge
        have hin := hrl.inner k hk'
        rw [hrk] at hin
        obtain ⟨g, hg⟩ := hrl.outer.ad (by omega)
        conv => whnf
        refine .mk g hg (by omega) (by omega) ?_
        conv => whnf
        refine .hp (.slice (some (J k).1) (rows.getD k []).length (J k).2) (by rw [Int.toNat_natCast]; exact hrl.outer.one hg (map_range hk') rfl) ?_
        rw [hrk]
        conv => whnf
        refine .mk _ rfl (by omega) (by omega) ?_
        conv => whnf
        refine .hp (iv (rows[k][i]'(by omega))) (by rw [Int.toNat_natCast]; exact hin.one rfl (r := [iv (rows[k][i]'(by omega))]) (by simp [show i < rows[k].length by omega]) rfl) ?_
        conv => whnf
        refine .mk gm rfl (by omega) (by omega) ?_
        conv => whnf
        refine .hp (iv ((maxes rows).getD i 0)) (by rw [Int.toNat_natCast, ← hmi]; exact hmst.one rfl (r := [iv ((maxes rows)[i]'(by omega))]) (by simp [show i < (maxes rows).length by omega]) rfl) ?_
        conv => whnf
        refine br_dec (fun q => by omega) (fun _ => ?_)
        cases b with
        | true =>
          conv => whnf
          refine .ok (by omega) (by omega) ?_
          conv => whnf
          exact ⟨(k + 1, true), rfl, rfl, ⟨rfl, hk', by rw [hst]; rfl⟩, by show rows.length - (k + 1) < rows.length - k; omega⟩
        | false =>
          conv => whnf
          refine .mk g hg (by omega) (by omega) ?_
          conv => whnf
          refine .hp (.slice (some (J k).1) (rows.getD k []).length (J k).2) (by rw [Int.toNat_natCast]; exact hrl.outer.one hg (map_range hk') rfl) ?_
          rw [hrk]
          conv => whnf
          refine .mk _ rfl (by omega) (by omega) ?_
          conv => whnf
          refine .hp (iv (rows[k][i]'(by omega))) (by rw [Int.toNat_natCast]; exact hin.one rfl (r := [iv (rows[k][i]'(by omega))]) (by simp [show i < rows[k].length by omega]) rfl) ?_
          conv => whnf
          refine .mk gm rfl (by omega) (by omega) ?_
          conv => whnf
          refine .hp (iv ((maxes rows).getD i 0)) (by rw [Int.toNat_natCast, ← hmi]; exact hmst.one rfl (r := [iv ((maxes rows)[i]'(by omega))]) (by simp [show i < (maxes rows).length by omega]) rfl) ?_
          conv => whnf
          refine .ok (by omega) (by omega) ?_
          conv => whnf
          exact ⟨(k + 1, decide (rows[k][i]'(by omega) = (maxes rows).getD i 0)), rfl, rfl, ⟨rfl, hk', by rw [hst]; rfl⟩, by show rows.length - (k + 1) < rows.length - k; omega⟩
      · obtain rfl : k = rows.length := by omega
        rw [hit_all hne hi' hlens] at hb
        subst hb
        conv => whnf
        refine .ok (by omega) (by omega) ?_
        conv => whnf
        exact ⟨i + 1, rfl, rfl, ⟨rfl, hi'⟩, by omega⟩
    · conv => whnf
      refine .mk _ (awake16 _) (fun _ _ q => q.2) ?_
      rintro _ h10 ⟨rfl, l10⟩
      have hrl := hrl.mono l10
      obtain ⟨g, hg⟩ := hrl.outer.ad (by omega)
      have h00 : 0 < rows.length := by omega
      have hl1 : rows.length - 1 < rows.length := by omega
      conv => whnf
      refine .mk g hg (by omega) (by omega) ?_
      conv => whnf
      refine .hp (.slice (some (J 0).1) (rows.getD 0 []).length (J 0).2) (hrl.outer.one hg (i := 0) (map_range h00) rfl) ?_
      conv => whnf
      refine .ok (by omega) (by omega) ?_
      conv => whnf
      refine .mk g hg (by omega) (by omega) ?_
      conv => whnf
      refine .hp (.slice (some (J (rows.length - 1)).1) (rows.getD (rows.length - 1) []).length (J (rows.length - 1)).2) (by rw [show ((rows.length : Int) - 1).toNat = rows.length - 1 by omega]; exact hrl.outer.one hg (map_range hl1) rfl) ?_
      conv => whnf
      have hlen0 : (rows.getD 0 []).length ≤ 9223372036854775806 := by
        rw [q1.lens 0 h00]; omega
      refine .mk _ (same21 _ _ _ _ _ _ _ _ _ (hrl.inner 0 h00) (hrl.inner _ hl1) hlen0) (fun _ _ q => by rw [q.2]; exact Hp.le_refl _) ?_
      rintro _ h11 ⟨rfl, rfl⟩
      rw [home_rows he hrows]
      have ll10 := ll9.trans' l10
      cases decide (rows.getD 0 [] = rows.getD (rows.length - 1) []) with
      | true => conv => whnf
                exact .done ⟨rfl, ll10⟩
      | false => conv => whnf
                 exact .done ⟨rfl, ll10⟩
  · obtain rfl := b3 he
    conv => whnf
    refine .done (.mk _ (lentNet10 N A arcs.length cap arcs h3 (ht.mono ll3) hn) ?_)
    rintro _ h4 ⟨l4, A4, c4, rfl, t4⟩
    conv => whnf
    refine .done (.mk _ (ints24 D r cap2 zs h4 (hz.mono (ll3.trans' l4)) hr) ?_)
    rintro _ h5 ⟨l5, D5, d5, rfl, q5, _⟩
    conv => whnf
    refine .done (.mk _ (most19 N arcs.length c4 arcs A4 D5 r d5 zs h5 (t4.mono l5).tab (by omega) q5.one) ?_)
    rintro v6 h6 ⟨l6, b6, g6⟩
    obtain rfl := b6 he
    have ll6 := ll3.trans' (l4.trans' (l5.trans' l6))
    conv => whnf
    refine .done (.mk _ (lentNet10 N A arcs.length cap arcs h6 (ht.mono ll6) hn) ?_)
    rintro _ h7 ⟨l7, A7, c7, rfl, t7⟩
    conv => whnf
    refine .done (.mk _ (ints24 D r cap2 zs h7 (hz.mono (ll6.trans' l7)) hr) ?_)
    rintro _ h8 ⟨l8, D8, d8, rfl, q8, _⟩
    conv => whnf
    refine .done (.mk _ (home22 N arcs.length c7 arcs A7 D8 r d8 zs h8 (t7.mono l8).tab (by omega) q8.one) ?_)
    rintro _ h9 ⟨rfl, l9⟩
    have ll9 := ll6.trans' (l7.trans' (l8.trans' l9))
    have hh : homeOf N arcs zs = false := by rw [homeOf, decide_eq_false he]; rfl
    rw [hh]
    conv => whnf
    refine br_dec (fun q => (q rfl).elim) (fun _ => ?_)
    conv => whnf
    refine br_dec (fun q => (q rfl).elim) (fun _ => ?_)
    conv => whnf
    refine br_dec (fun _ => ?_) (fun q => absurd he q)
    conv => whnf
    refine .done (.mk _ (awake16 _) ?_)
    rintro _ h10 ⟨rfl, l10⟩
    conv => whnf
    exact .done ⟨rfl, ll9.trans' l10⟩
end Go.Sx
