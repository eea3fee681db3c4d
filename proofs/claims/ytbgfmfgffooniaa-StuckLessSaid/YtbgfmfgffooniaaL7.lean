/- StuckLess: the law's own function answers true. Conditions: none. -/
import Derived.Test.YtbgfmfgffooniaaS15
namespace Go.Sx
open Go.Proofs
theorem law7 (N : Int) (A B D : Option Addr) (n m r cap cap' cap2 : Nat) (arcs : List Arc) (l : List Blk) (zs : List Int) (h : Hp) (ht : Tab h 5 A n (arcs.map Arc.cells)) (hu : Tab h 3 B m (l.map Blk.cells)) (hz : Tab h 1 D r (zs.map fun z => [iv z]))
    (hn : n * 40 ≤ 140737488355328) (hm : m * 24 ≤ 140737488355328) (hr : r * 8 ≤ 140737488355328) :
    Fn Try.prog 7 #[netV N A n cap, .slice B m cap', .slice D r cap2] h fun v h' => v = .bool true ∧ h.le h' := by
  have hl : l.length = m := by simpa using hu.len
  have hzl : zs.length = r := by simpa using hz.len
  refine Fn.intro (args := [netV N A n cap, .slice B m cap', .slice D r cap2]) mix14 Try.func7 rfl (by decide) Try.ntmps7 rfl (low7 rfl) rfl ?_
  by_cases hs : chk N arcs = 0
  · have hN := chk_zero hs
    obtain ⟨N, rfl⟩ : ∃ q : Nat, N = q := ⟨N.toNat, by omega⟩
    conv => whnf
    refine .done (.mk _ (new16 N n cap arcs A h ht hn hs) ?_)
    rintro _ _ ⟨hF, b, gt, gf, rfl, hleF, web, rfl⟩
    conv => whnf
    refine .mk (Nat × Hp × List Int) [1, 2, 3, 7, 9] (fun (i, _, _) => [.v (.slice B m cap'), .v (.slice D r cap2), .p 0 0, .v (ptr b), .v (iv i)]) (fun _ => [.own [.v (iv N), .v (.slice A n cap)] 24])
      (fun (i, hG, f) h' => h' = st hG gt gf (toksOf arcs f) f ∧ At h hG b gt gf N arcs f i ∧ (conf0 N arcs l = 0 → Held l f) ∧ i ≤ r) (fun (i, _, _) => r - i) (0, hF, List.replicate N 0) (fun (_, _, _) => rfl)
      ⟨rfl, ⟨hleF, web, good_zero hs⟩, fun hc => held_zero (conf0_zero hc).1.2.1 N, Nat.zero_le _⟩ rfl rfl ?_
    rintro ⟨i, hG, f⟩ e h' ⟨rfl, ha, hh, hi⟩
    conv => whnf
    refine br_dec (fun h3 => ?_) (fun h3 => ?_)
    · have hi' : i < r := by omega
      obtain ⟨g, hg⟩ := hz.ad (by omega)
      conv => whnf
      refine .mk g hg (by omega) (by omega) ?_
      conv => whnf
      refine .hp (iv zs[i]) (by rw [Int.toNat_natCast]; exact (hz.mono ha.all).one hg (r := [iv zs[i]]) (by simp [hzl, hi']) rfl) ?_
      conv => whnf
      refine .mk fun bk hbk => ?_
      conv => whnf
      refine .done (.mk _ (fireOne hs ha (by omega) zs[i] hbk) ?_)
      rintro r1 _ ⟨hH, rfl, aH⟩
      have hheld := fun hc0 => run_held hs hc0 [zs[i]] f i ha.good (hh hc0)
      generalize (fireRun N arcs [zs[i]] f).2 = f2 at aH hheld
      conv => whnf
      refine .ok (by omega) (by omega) ?_
      conv => whnf
      exact ⟨(i + 1, hH, f2), rfl, rfl, ⟨rfl, aH, hheld, hi'⟩, by show r - (i + 1) < r - i; omega⟩
    conv => whnf
    refine .done (.mk _ (firedAt hs ha) ?_)
    rintro _ _ ⟨hK, A2, c2, rfl, aK, rfl, hf2⟩
    conv => whnf
    refine .mk Nat [1, 3, 10, 11] (fun j => [.v (.slice B m cap'), .p 0 0, .v (.slice A2 N c2), .v (iv j)]) (fun _ => [.own [.v (iv N), .v (.slice A n cap)] 24]) (fun j h' => h' = st hK gt gf (toksOf arcs f) f ∧ j ≤ m) (fun j => m - j) 0 (fun _ => rfl) ⟨rfl, Nat.zero_le _⟩ rfl rfl ?_
    rintro j e2 h' ⟨rfl, hj⟩
    conv => whnf
    refine br_dec (fun h4 => ?_) (fun h4 => ?_)
    · have hj' : j < l.length := by omega
      obtain ⟨g3, hg3⟩ := hu.ad (by omega)
      have hum := hu.mono (aK.all (t := toksOf arcs f))
      have hfl := aK.good.len
      obtain ⟨g4, hg4⟩ := hf2.ad (by omega)
      conv => whnf
      refine .mk g3 hg3 (by omega) (by omega) ?_
      conv => whnf
      refine .hp (iv l[j].node) (by rw [Int.toNat_natCast, add_add]; exact hum.cell g3 hg3 j _ (map_get hj') 0 _ rfl) ?_
      conv => whnf
      refine br_dec (fun h5 => ?_) (fun h5 => ?_)
      · conv => whnf
        refine br_dec (fun h6 => ?_) (fun h6 => ?_)
        · conv => whnf
          refine .mk g4 hg4 (by omega) (by omega) ?_
          conv => whnf
          refine .hp (iv (f[l[j].node.toNat]'(by omega))) (hf2.one hg4 (r := [iv (f[l[j].node.toNat]'(by omega))]) (by simp [show l[j].node.toNat < f.length by omega]) rfl) ?_
          conv => whnf
          refine .mk g3 hg3 (by omega) (by omega) ?_
          conv => whnf
          refine .hp (iv l[j].fired) (by rw [Int.toNat_natCast, add_add]; exact hum.cell g3 hg3 j _ (map_get hj') 1 _ rfl) ?_
          conv => whnf
          refine br_dec (fun h7 => ?_) (fun h7 => ?_)
          · have hgd : f.getD l[j].node.toNat 0 = f[l[j].node.toNat]'(by omega) := by rw [List.getD_eq_getElem?_getD, List.getElem?_eq_getElem (by omega)]; rfl
            have hcf : conf N arcs l = 140 ∨ conf N arcs l = 141 := by
              rw [conf, if_pos hs]
              have : conf0 N arcs l ≠ 0 := fun hc => by
                have := hh hc l[j] (List.getElem_mem hj')
                omega
              unfold conf0 at this ⊢
              split
              · rename_i hf
                rw [if_pos hf] at this
                split
                · exact .inr rfl
                · rename_i hx; rw [if_neg hx] at this; exact absurd rfl this
              · exact .inl rfl
            conv => whnf
            refine .done (.mk _ (confirm11 N A B n m cap cap' arcs l _ (ht.mono aK.all) hum (by omega) (by omega)) ?_)
            rintro _ h8 ⟨rfl, hle8⟩
            conv => whnf
            refine br_dec (fun h9 => ?_) (fun h9 => ?_)
            · conv => whnf
              refine .done (.mk _ (awake15 _) ?_)
              rintro _ h10 ⟨rfl, hle10⟩
              conv => whnf
              exact .done ⟨rfl, (aK.all.trans' hle8).trans' hle10⟩
            · conv => whnf
              refine br_dec (fun h10 => ?_) (fun h10 => ?_)
              · conv => whnf
                refine .done (.mk _ (awake15 _) ?_)
                rintro _ h11 ⟨rfl, hle11⟩
                conv => whnf
                exact .done ⟨rfl, (aK.all.trans' hle8).trans' hle11⟩
              · omega
          · conv => whnf
            refine .ok (by omega) (by omega) ?_
            conv => whnf
            exact ⟨j + 1, rfl, rfl, ⟨rfl, by omega⟩, by omega⟩
        · conv => whnf
          refine .ok (by omega) (by omega) ?_
          conv => whnf
          exact ⟨j + 1, rfl, rfl, ⟨rfl, by omega⟩, by omega⟩
      · conv => whnf
        refine .ok (by omega) (by omega) ?_
        conv => whnf
        exact ⟨j + 1, rfl, rfl, ⟨rfl, by omega⟩, by omega⟩
    conv => whnf
    refine .done (.mk _ (awake15 _) ?_)
    rintro _ h3 ⟨rfl, hle3⟩
    conv => whnf
    exact .done ⟨rfl, aK.all.trans' hle3⟩
  · conv => whnf
    refine .done (.mk _ (new16_bad N n cap arcs A h ht hn hs) ?_)
    rintro _ h ⟨rfl, rfl⟩
    conv => whnf
    refine br_dec (fun h1 => ?_) (fun h1 => absurd h1 (by simpa using hs))
    conv => whnf
    refine .done (.mk _ (confirm11 N A B n m cap cap' arcs l h ht hu (by omega) (by omega)) ?_)
    rintro _ h8 ⟨rfl, hle8⟩
    rw [conf, if_neg hs]
    conv => whnf
    refine br_dec (fun _ => ?_) (fun q => (q rfl).elim)
    conv => whnf
    refine .done (.mk _ (awake15 _) ?_)
    rintro _ h9 ⟨rfl, hle9⟩
    conv => whnf
    exact .done ⟨rfl, hle8.trans' hle9⟩
end Go.Sx
