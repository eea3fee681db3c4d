/- PackChecks: the law's own function answers true. Conditions: none. -/
import Derived.Test.YthibgmkobcbhhaaGreatM19Y
import Derived.Test.YthibgmkobcbhhaaGreatIr19L
namespace Go.Sx
open Go.Proofs Go.Sort
set_option maxRecDepth 100000
theorem map_add02 (A : Option Addr) : A.map (fun a => a.add (0 * 2)) = A := by cases A <;> simp [add_zero]
theorem lawT4 (N : Int) (A D F : Option Addr) (n r cap cap2 pn pcap : Nat) (arcs : List Arc) (zs : List Int) (rs : List Pr) (t : Int) (h : Hp) (ht : Tab h 5 A n (arcs.map Arc.cells)) (hz : Tab h 1 D r (zs.map fun z => [iv z])) (hp : Tab h 2 F pn (rs.map pc))
    (hn : n * 40 ≤ 140737488355328) (hr : r * 8 ≤ 140737488355328) (hpn : pn * 16 ≤ 140737488355328) :
    Fn Tryz.prog 4 #[netV N A n cap, .agg #[.slice F pn pcap, iv t], .slice D r cap2] h fun v h' => v = .bool true ∧ h.le h' := by
  have hal : arcs.length = n := by simpa using ht.len
  have hpl : rs.length = pn := by simpa using hp.len
  refine Fn.intro (args := [netV N A n cap, .agg #[.slice F pn pcap, iv t], .slice D r cap2]) mix14 Tryz.func4 rfl (by decide) Tryz.ntmps4 rfl (low4 rfl) rfl ?_
  conv => whnf
  refine .done (.mk _ (lentNet10 N A n cap arcs h ht hn) ?_)
  rintro _ h1 ⟨l1, A1, c1, rfl, t1⟩
  conv => whnf
  refine .done (.mk _ (lent11 D r cap2 zs h1 (hz.mono l1) hr) ?_)
  rintro _ h2 ⟨l2, D2, rfl, t2⟩
  have l02 := Hp.le_trans l1 l2
  conv => whnf
  refine .done (.fresh _ rfl rfl rfl ((hp.mono l02).src _) (fun u hu => ?_) (by simp only [maxLen]; omega) (by omega) fun A' cap' hk => ?_)
  · obtain ⟨x, hx, hu⟩ := List.mem_flatten.1 hu
    obtain ⟨y, _, rfl⟩ := List.mem_map.1 hx
    simp only [pc, List.mem_cons, List.not_mem_nil, or_false] at hu
    rcases hu with rfl | rfl <;> rfl
  conv => whnf
  refine .done (.push 3 _ [iv (-77), iv 0] rfl rfl (by intro u hu; simp at hu; rcases hu with rfl | rfl <;> rfl) rfl (by simp only [maxLen]; omega) (by omega) (by decide) fun E c3 hk3 => ?_)
  conv => whnf
  refine .mk 0 pn rfl rfl (Nat.zero_le _) (by omega) fun B hB _ => ?_
  obtain rfl : B = E := by rw [hB (by omega), map_add02]
  rw [Nat.sub_zero, Nat.sub_zero]
  conv => whnf
  refine .pub 3 37 2 B (pn + 1) c3 _ rfl fun h3 l3 ro3 _ => ?_
  have tw : Tab h3 2 B (pn + 1) ((rs ++ [((-77 : Int), (0 : Int))]).map pc) := by
    refine RowAt.tab2 (ety := 37) (cap := c3) ?_
    rw [List.map_append, List.flatten_append]
    exact ro3
  have tp : Tab h3 2 B pn (rs.map pc) := by
    have := tw.take (k := pn) (by omega)
    rw [List.map_append, List.take_append_of_le_length (by rw [List.length_map]; omega), List.take_of_length_le (by rw [List.length_map]; omega)] at this
    exact this
  refine .mk _ (check22 N n c1 arcs A1 D2 r (r + 4) zs h3 (t1.mono (Hp.le_trans l2 l3)).tab hn (t2.mono l3).tab B pn c3 rs t tp) ?_ ?_
  · rintro _ _ ⟨_, l⟩; exact l
  rintro _ h4 ⟨rfl, l4⟩
  have l04 := Hp.le_trans l02 (Hp.le_trans l3 l4)
  conv => whnf
  refine .mk 0 pn rfl rfl (Nat.zero_le _) (by omega) fun B2 hB _ => ?_
  obtain rfl : B2 = B := by rw [hB (by omega), map_add02]
  rw [Nat.sub_zero, Nat.sub_zero]
  conv => whnf
  have tw4 := tw.mono l4
  obtain ⟨g, hg⟩ := tw4.ad (by omega)
  have ldw : h4.cell? ((g.add ((pn : Int).toNat * 2)).add 0) = some (iv (-77)) := by
    rw [Int.toNat_natCast]
    exact tw4.row hg (i := pn) (r := pc (-77, 0)) (by rw [List.map_append, List.getElem?_append_right (by rw [List.length_map]; omega), List.length_map, hpl, Nat.sub_self]; rfl) 0 _ rfl
  refine .mk _ (sameRegs14 B2 F pn pn c3 pcap rs rs h4 (tp.mono l4) (hp.mono l04) (by omega)) ?_ ?_
  · rintro _ _ ⟨_, rfl⟩; exact Hp.le_refl _
  rintro _ h4 ⟨rfl, rfl⟩
  rw [decide_eq_true rfl]
  conv => whnf
  refine .mk g hg (by omega) (by omega) ?_
  conv => whnf
  refine .hp (iv (-77)) ldw ?_
  conv => whnf
  refine .done (.mk _ (awake14 _) ?_)
  rintro _ h6 ⟨rfl, l6⟩
  have l06 := Hp.le_trans l04 l6
  conv => whnf
  refine .done (.mk _ (refCheck15 N n cap arcs A D r cap2 zs h6 (ht.mono l06) hn (hz.mono l06) F pn pcap rs t (hp.mono l06)) ?_)
  rintro _ h7 ⟨rfl, l7⟩
  have l07 := Hp.le_trans l06 l7
  generalize checkE N arcs zs rs t = ce
  conv => whnf
  refine br_dec (fun _ => ?_) (fun q => absurd rfl q)
  conv => whnf
  refine .done (.mk _ (keptNet17 N N A1 A n c1 n cap arcs arcs h7 (t1.mono (Hp.le_trans l2 (Hp.le_trans l3 (Hp.le_trans l4 (Hp.le_trans l6 l7))))) (ht.mono l07) (by omega) ⟨rfl, rfl⟩) ?_)
  rintro _ _ ⟨rfl, rfl⟩
  conv => whnf
  refine .done (.mk _ (kept18 D2 D r cap2 zs _ (t2.mono (Hp.le_trans l3 (Hp.le_trans l4 (Hp.le_trans l6 l7)))) (hz.mono l07) hr) ?_)
  rintro _ _ ⟨rfl, rfl⟩
  conv => whnf
  exact .done ⟨rfl, l07⟩
end Go.Sx
