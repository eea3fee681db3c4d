/- StuckHolds: the law's own function answers true. Conditions: none. -/
import Derived.Test.YtbgfmfgffooniaaS15
namespace Go.Sx
open Go.Proofs
theorem law6 (N : Int) (A B D : Option Addr) (n m r cap cap' cap2 : Nat) (arcs : List Arc) (l : List Blk) (zs : List Int) (h : Hp) (ht : Tab h 5 A n (arcs.map Arc.cells)) (hu : Tab h 3 B m (l.map Blk.cells)) (hz : Tab h 1 D r (zs.map fun z => [iv z]))
    (hn : n * 40 ≤ 140737488355328) (hm : m * 24 ≤ 140737488355328) (hr : r * 8 ≤ 140737488355328) :
    Fn Try.prog 6 #[netV N A n cap, .slice B m cap', .slice D r cap2] h fun v h' => v = .bool true ∧ h.le h' := by
  have hl : l.length = m := by simpa using hu.len
  have hzl : zs.length = r := by simpa using hz.len
  refine Fn.intro (args := [netV N A n cap, .slice B m cap', .slice D r cap2]) mix14 Try.func6 rfl (by decide) Try.ntmps6 rfl (low6 rfl) rfl ?_
  conv => whnf
  refine .done (.mk _ (confirm11 N A B n m cap cap' arcs l h ht hu (by omega) (by omega)) ?_)
  rintro _ h1 ⟨rfl, hle1⟩
  conv => whnf
  refine br_dec (fun h2 => ?_) (fun h2 => ?_)
  · conv => whnf
    refine .done (.mk _ (awake15 _) ?_)
    rintro _ h3 ⟨rfl, hle3⟩
    conv => whnf
    exact .done ⟨rfl, hle1.trans' hle3⟩
  have hc : conf N arcs l = 0 := by simpa using h2
  have hs : chk N arcs = 0 := by
    unfold conf at hc
    split at hc
    · assumption
    · exact hc
  have hc0 : conf0 N arcs l = 0 := by rw [conf, if_pos hs] at hc; exact hc
  have hN := chk_zero hs
  obtain ⟨N, rfl⟩ : ∃ q : Nat, N = q := ⟨N.toNat, by omega⟩
  have hok := (conf0_zero hc0).1.2.1
  conv => whnf
  refine .done (.mk _ (new16 N n cap arcs A h1 (ht.mono hle1) hn hs) ?_)
  rintro _ _ ⟨hF, b, gt, gf, rfl, hleF, web, rfl⟩
  conv => whnf
  refine .mk (Nat × Hp × List Int) [1, 2, 7, 9] (fun (i, _, _) => [.v (.slice B m cap'), .v (.slice D r cap2), .v (ptr b), .v (iv i)]) (fun _ => [])
    (fun (i, hG, f) h' => h' = st hG gt gf (toksOf arcs f) f ∧ At h hG b gt gf N arcs f i ∧ Held l f ∧ i ≤ r) (fun (i, _, _) => r - i) (0, hF, List.replicate N 0) (fun (_, _, _) => rfl)
    ⟨rfl, ⟨hle1.trans' hleF, web, good_zero hs⟩, held_zero hok N, Nat.zero_le _⟩ rfl rfl ?_
  rintro ⟨i, hG, f⟩ e h' ⟨rfl, ha, hh, hi⟩
  conv => whnf
  refine br_dec (fun h3 => ?_) (fun h3 => ?_)
  · have hi' : i < r := by omega
    obtain ⟨g, hg⟩ := hz.ad (by omega)
    conv => whnf
    refine .mk g hg (by omega) (by omega) ?_
    conv => whnf
    refine .hp (iv zs[i]) (by rw [Int.toNat_natCast]; exact (hz.mono ha.all).one hg (r := [iv zs[i]]) (by simp [hzl, hi']) rfl) ?_
    conv => whnf
    refine .mk fun bk hbk => ?_
    conv => whnf
    refine .done (.mk _ (fireOne hs ha (by omega) zs[i] hbk) ?_)
    rintro r1 _ ⟨hH, rfl, aH⟩
    have hheld := run_held hs hc0 [zs[i]] f i ha.good hh
    generalize (fireRun N arcs [zs[i]] f).2 = f2 at aH hheld
    conv => whnf
    refine .done (.mk _ (firedAt hs aH) ?_)
    rintro _ _ ⟨hK, A2, c2, rfl, aK, rfl, hf2⟩
    conv => whnf
    refine .mk Nat [1, 2, 7, 9, 10, 11] (fun j => [.v (.slice B m cap'), .v (.slice D r cap2), .v (ptr b), .v (iv i), .v (.slice A2 N c2), .v (iv j)]) (fun _ => []) (fun j h' => h' = st hK gt gf (toksOf arcs f2) f2 ∧ j ≤ m) (fun j => m - j) 0 (fun _ => rfl) ⟨rfl, Nat.zero_le _⟩ rfl rfl ?_
    rintro j e2 h' ⟨rfl, hj⟩
    conv => whnf
    refine br_dec (fun h4 => ?_) (fun h4 => ?_)
    · have hj' : j < l.length := by omega
      obtain ⟨g3, hg3⟩ := hu.ad (by omega)
      have hum := hu.mono (aK.all (t := toksOf arcs f2))
      have hb1 := ok1_iff.1 (hok l[j] (List.getElem_mem hj'))
      have hfl := aK.good.len
      have hbound := hheld l[j] (List.getElem_mem hj')
      obtain ⟨g4, hg4⟩ := hf2.ad (by omega)
      conv => whnf
      refine .mk g3 hg3 (by omega) (by omega) ?_
      conv => whnf
      refine .hp (iv l[j].node) (by rw [Int.toNat_natCast, add_add]; exact hum.cell g3 hg3 j _ (map_get hj') 0 _ rfl) ?_
      conv => whnf
      refine br_dec (fun h5 => by omega) (fun h5 => ?_)
      conv => whnf
      refine br_dec (fun h6 => by omega) (fun h6 => ?_)
      conv => whnf
      have hgd : f2.getD l[j].node.toNat 0 = f2[l[j].node.toNat]'(by omega) := by rw [List.getD_eq_getElem?_getD, List.getElem?_eq_getElem (by omega)]; rfl
      refine .mk g4 hg4 (by omega) (by omega) ?_
      conv => whnf
      refine .hp (iv (f2[l[j].node.toNat]'(by omega))) (hf2.one hg4 (r := [iv (f2[l[j].node.toNat]'(by omega))]) (by simp [show l[j].node.toNat < f2.length by omega]) rfl) ?_
      conv => whnf
      refine .mk g3 hg3 (by omega) (by omega) ?_
      conv => whnf
      refine .hp (iv l[j].fired) (by rw [Int.toNat_natCast, add_add]; exact hum.cell g3 hg3 j _ (map_get hj') 1 _ rfl) ?_
      conv => whnf
      refine br_dec (fun h7 => by omega) (fun h7 => ?_)
      conv => whnf
      refine .ok (by omega) (by omega) ?_
      conv => whnf
      exact ⟨j + 1, rfl, rfl, ⟨rfl, by omega⟩, by omega⟩
    conv => whnf
    refine .ok (by omega) (by omega) ?_
    conv => whnf
    exact ⟨(i + 1, hK, f2), rfl, rfl, ⟨rfl, aK, hheld, hi'⟩, by show r - (i + 1) < r - i; omega⟩
  conv => whnf
  refine .done (.mk _ (awake15 _) ?_)
  rintro _ h3 ⟨rfl, hle3⟩
  conv => whnf
  exact .done ⟨rfl, ha.all.trans' hle3⟩
end Go.Sx
