/- PackMoves: the law's own function answers true. Conditions: none. -/
import Derived.Test.YthibgmkobcbhhaaM19U
import Derived.Test.YthibgmkobcbhhaaIr19L
namespace Go.Sx
open Go.Proofs Go.Sort
set_option maxRecDepth 100000
theorem lawT7 (N : Int) (A D F : Option Addr) (n r cap cap2 pn pcap : Nat) (arcs : List Arc) (zs : List Int) (rs : List Pr) (t y : Int) (h : Hp) (ht : Tab h 5 A n (arcs.map Arc.cells)) (hz : Tab h 1 D r (zs.map fun z => [iv z])) (hp : Tab h 2 F pn (rs.map pc))
    (hn : n * 40 ≤ 140737488355328) (hr : r * 8 ≤ 140737488355328) (hpn : pn * 16 ≤ 140737488355328) :
    Fn Try.prog 7 #[netV N A n cap, .agg #[.slice F pn pcap, iv t, iv y], .slice D r cap2] h fun v h' => v = .bool true ∧ h.le h' := by
  have hal : arcs.length = n := by simpa using ht.len
  have hpl : rs.length = pn := by simpa using hp.len
  refine Fn.intro (args := [netV N A n cap, .agg #[.slice F pn pcap, iv t, iv y], .slice D r cap2]) mix14 Try.func7 rfl (by decide) Try.ntmps7 rfl (low7 rfl) rfl ?_
  conv => whnf
  refine .mk _ (lentNet10 N A n cap arcs h ht hn) ?_ ?_
  · rintro _ _ ⟨l, _⟩; exact l
  rintro _ h1 ⟨l1, A1, c1, rfl, t1⟩
  conv => whnf
  refine .fresh _ rfl rfl rfl ((hp.mono l1).src _) (fun u hu => ?_) (by simp only [maxLen]; omega) (by omega) fun A' cap' hk => ?_
  · obtain ⟨x, hx, hu⟩ := List.mem_flatten.1 hu
    obtain ⟨y, _, rfl⟩ := List.mem_map.1 hx
    simp only [pc, List.mem_cons, List.not_mem_nil, or_false] at hu
    rcases hu with rfl | rfl <;> rfl
  conv => whnf
  refine .mk _ (ints24 D r cap2 zs h1 (hz.mono l1) hr) ?_ ?_
  · rintro _ _ ⟨l, _⟩; exact l
  rintro _ h2 ⟨l2, D2, c2, rfl, t2, _⟩
  conv => whnf
  refine .pub 2 50 2 A' pn cap' _ rfl fun h3 l3 ro3 _ => ?_
  refine .mk _ (check22 N n c1 arcs A1 D2 r c2 zs h3 (t1.mono (Hp.le_trans l2 l3)).tab hn (t2.mono l3).one A' pn cap' rs t ro3.tab2) ?_ ?_
  · rintro _ _ ⟨_, l⟩; exact l
  rintro _ h4 ⟨rfl, l4⟩
  have l04 := Hp.le_trans l1 (Hp.le_trans l2 (Hp.le_trans l3 l4))
  conv => whnf
  refine br_dec (fun w => ?_) (fun w => ?_)
  · conv => whnf
    refine .done (.mk _ (awake14 _) ?_)
    rintro _ h5 ⟨rfl, l5⟩
    conv => whnf
    exact .done ⟨rfl, Hp.le_trans l04 l5⟩
  have h0 : checkE N arcs zs rs t = 0 := Decidable.byContradiction w
  obtain ⟨rl, t0, t1', rin⟩ := check_range h0
  conv => whnf
  refine br_dec (fun w1 => ?_) (fun w1 => ?_)
  · conv => whnf
    refine .done (.mk _ (awake14 _) ?_)
    rintro _ h5 ⟨rfl, l5⟩
    conv => whnf
    exact .done ⟨rfl, Hp.le_trans l04 l5⟩
  conv => whnf
  refine br_dec (fun w2 => ?_) (fun w2 => ?_)
  · conv => whnf
    refine .done (.mk _ (awake14 _) ?_)
    rintro _ h5 ⟨rfl, l5⟩
    conv => whnf
    exact .done ⟨rfl, Hp.le_trans l04 l5⟩
  conv => whnf
  refine .ok (by omega) (by omega) ?_
  conv => whnf
  refine br_dec (fun w3 => ?_) (fun w3 => ?_)
  · conv => whnf
    refine .done (.mk _ (awake14 _) ?_)
    rintro _ h5 ⟨rfl, l5⟩
    conv => whnf
    exact .done ⟨rfl, Hp.le_trans l04 l5⟩
  generalize hcc : IR.seq (.odd ir7_r10) .ret = cc
  conv => whnf
  refine .ok (by omega) (by omega) ?_
  conv => whnf
  refine .shf (.abs 50 2 none 0 0 [] ⟨rfl, .inl ⟨rfl, rfl, rfl⟩⟩ (.done ?_))
  refine .mk (Nat × Option Addr × Nat × List Value) [2, 3, 4, 8, 9] (fun (k, _, _, _) => [.v (.slice D r cap2), .p 0 0, .p 1 0, .p 3 0, .v (iv k)])
    (fun (k, E, c, ws) => [.own [.v (iv N), .v (.slice A n cap)] 24, .own [.v (.slice F pn pcap), .v (iv t), .v (iv y)] 59, .gone, .own [.v (.slice E k c), .v (iv (t + y))] 41, .row 50 2 E k c ws])
    (fun (k, _, _, ws) h' => h' = h4 ∧ k ≤ pn ∧ ws = (((rs.take k).map (mv y)).map pc).flatten) (fun (k, _, _, _) => pn - k) (0, none, 0, []) (fun (_, _, _, _) => rfl) ⟨rfl, Nat.zero_le _, rfl⟩ rfl rfl ?_
  rintro ⟨k, E, c, ws⟩ e h' ⟨rfl, hk2, hws⟩
  conv => whnf
  refine br_dec (fun u => ?_) (fun u => ?_)
  · have hk' : k < rs.length := by omega
    obtain ⟨g, hg⟩ := hp.ad (by omega)
    obtain ⟨x, hx⟩ : ∃ x, x = rs[k] := ⟨_, rfl⟩
    have row : (rs.map pc)[k]? = some (pc x) := by rw [List.getElem?_map, List.getElem?_eq_getElem hk', hx]; rfl
    have ld0 : h'.cell? ((g.add ((k : Int).toNat * 2)).add 0) = some (iv x.1) := by
      rw [add_add, Int.toNat_natCast]; exact (hp.mono l04).cell g hg k _ row 0 _ rfl
    have ld1 : h'.cell? ((g.add ((k : Int).toNat * 2)).add 1) = some (iv x.2) := by
      rw [add_add, Int.toNat_natCast]; exact (hp.mono l04).cell g hg k _ row 1 _ rfl
    obtain ⟨x0, x1, x2, x3⟩ := rin x (by rw [hx]; exact List.getElem_mem hk')
    conv => whnf
    refine .mk g hg (by omega) (by omega) ?_
    conv => whnf
    refine .hp (iv x.1) ld0 ?_
    conv => whnf
    refine .ok (by omega) (by omega) ?_
    conv => whnf
    refine .mk g hg (by omega) (by omega) ?_
    conv => whnf
    refine .hp (iv x.2) ld1 ?_
    conv => whnf
    refine .old 4 _ [iv (x.1 + y), iv x.2] rfl rfl (by intro u hu; simp at hu; rcases hu with rfl | rfl <;> rfl) (by simp only [maxLen]; omega) (by omega) fun E3 c3 _ => ?_
    conv => whnf
    refine .ok (by omega) (by omega) ?_
    conv => whnf
    refine ⟨(k + 1, E3, c3, ws ++ [iv (x.1 + y), iv x.2]), rfl, rfl, ⟨rfl, by omega, ?_⟩, by show pn - (k + 1) < pn - k; omega⟩
    rw [take_succ' hk', List.map_append, List.map_append, List.flatten_append, ← hws, ← hx]
    rfl
  · have hk' : k = pn := by omega
    subst hk'
    conv => whnf
    subst hcc
    conv => whnf
    refine .mk _ (awake14 _) ?_ ?_
    · rintro _ _ ⟨_, l⟩; exact l
    rintro _ h5 ⟨rfl, l5⟩
    conv => whnf
    refine .mk _ (lentNet10 N A n cap arcs h5 (ht.mono (Hp.le_trans l04 l5)) hn) ?_ ?_
    · rintro _ _ ⟨l, _⟩; exact l
    rintro _ h6 ⟨l6, A6, c6, rfl, t6⟩
    conv => whnf
    refine .mk _ (ints24 D r cap2 zs h6 (hz.mono (Hp.le_trans l04 (Hp.le_trans l5 l6))) hr) ?_ ?_
    · rintro _ _ ⟨l, _⟩; exact l
    rintro _ h7 ⟨l7, D7, c7, rfl, t7, _⟩
    conv => whnf
    refine .pub 4 50 2 E k c _ rfl fun h8 l8 ro8 _ => ?_
    rw [hws, List.take_of_length_le (by omega)] at ro8
    refine .mk _ (check22 N n c6 arcs A6 D7 r c7 zs h8 (t6.mono (Hp.le_trans l7 l8)).tab hn (t7.mono l8).one E k c (rs.map (mv y)) (t + y) ro8.tab2) ?_ ?_
    · rintro _ _ ⟨_, l⟩; exact l
    rintro _ h9 ⟨rfl, l9⟩
    rw [check_mv h0 (by omega) (by omega) (by omega)]
    conv => whnf
    exact .done ⟨rfl, Hp.le_trans l04 (Hp.le_trans l5 (Hp.le_trans l6 (Hp.le_trans l7 (Hp.le_trans l8 l9))))⟩
end Go.Sx
