/- Layer 19: the document's Place, walked. Conditions: none. -/
import Derived.Test.YthibgmkobcbhhaaGreatZ20H
import Derived.Test.YthibgmkobcbhhaaGreatM19J
import Derived.Test.YthibgmkobcbhhaaGreatZ20F
namespace Go.Sx
open Go.Proofs Go.Sort
set_option maxRecDepth 100000
abbrev Lp (N : Int) (A : Option Addr) (n cap : Nat) : List LE := [.own [.v (iv N), .v (.slice A n cap)] 24, .own [.v (.slice none 0 0), .v (iv 0)] 30]
theorem refPlace8 (N : Int) (n cap : Nat) (arcs : List Arc) (A D : Option Addr) (r cap2 : Nat) (zs : List Int) (h : Hp) (ht : Tab h 5 A n (arcs.map Arc.cells)) (hn : n * 40 ≤ 140737488355328) (hz : Tab h 1 D r (zs.map fun z => [iv z])) (os : List Nat)
    (hos : lookE N arcs zs = 0 → os.Perm (List.range arcs.length) ∧ Up (maxes (along N arcs zs).2) os) :
    Fn Tryz.prog 8 #[netV N A n cap, .slice D r cap2] h fun v h' => PlaceOkX h N arcs zs (fun o => o = os) v h' := by
  have hal0 : arcs.length = n := by simpa using ht.len
  subst hal0
  refine Fn.intro (args := [netV N A arcs.length cap, .slice D r cap2]) mix14 Tryz.func8 rfl (by decide) Tryz.ntmps8 rfl (low8 rfl) rfl ?_
  conv => whnf
  refine .done (.mk _ (refClash12 N arcs.length cap arcs A D r cap2 zs h ht hn hz) ?_)
  rintro _ h1 ⟨l1, hb, hg⟩
  by_cases hal : (along N arcs zs).1 = 0
  · obtain ⟨E, c, rfl, roE, _⟩ := hg hal
    have hchk := along_chk hal
    have hm := (chk_zero hchk).2.2.1
    conv => whnf
    refine .done (.mk _ (R18.home23 N arcs.length cap arcs A D r cap2 zs h1 (ht.mono l1) (by omega) (hz.mono l1)) ?_)
    rintro _ h2 ⟨rfl, l2⟩
    have l12 := Hp.le_trans l1 l2
    by_cases hh : homeOf N arcs zs = true
    · rw [hh]
      have hE : lookE N arcs zs = 0 := by unfold lookE; rw [if_neg (fun q => q hal), if_pos hh]
      obtain ⟨hop, hou⟩ := hos hE
      conv => whnf
      refine .done (.mk _ (R18.most20 N arcs.length cap arcs A D r cap2 zs h2 (ht.mono l12) (by omega) (hz.mono l12)) ?_)
      rintro _ h3 ⟨l3, _, hg3⟩
      obtain ⟨F, d, rfl, tF⟩ := hg3 hal
      have l13 := Hp.le_trans l12 l3
      obtain ⟨pks, pkb⟩ := look_peaks hal
      have hps : (pairsR (along N arcs zs).2 arcs.length).length ≤ 9216 := Nat.le_trans (all_pairs arcs.length _ ((pairs_sorted _ _).imp fun {a b} h e => by rw [e] at h; exact pl_irr _ h) fun p hp => by
        obtain ⟨i, j, e, a, b, _⟩ := pairs_mem.1 hp
        exact ⟨i, j, e, by omega, b⟩) (Nat.mul_le_mul hm hm)
      have hpl : ∀ p ∈ pairsR (along N arcs zs).2 arcs.length, 0 ≤ p.1 ∧ p.1 < p.2 := fun p hp => by
        obtain ⟨i, j, rfl, a, b, _⟩ := pairs_mem.1 hp
        exact ⟨by show (0 : Int) ≤ (i : Int); omega, by show (i : Int) < (j : Int); omega⟩
      have tE := (roE.mono (Hp.le_trans l2 l3)).tab2
      have hpb : ∀ i, 0 ≤ (maxes (along N arcs zs).2).getD i 0 ∧ (maxes (along N arcs zs).2).getD i 0 ≤ 131328 := fun i => by
        by_cases hi : i < arcs.length
        · exact pkb i hi
        · rw [List.getD_eq_getElem?_getD, List.getElem?_eq_none (by rw [pks.len]; omega)]
          exact ⟨by decide, by decide⟩
      have hfin : ∀ v h', (h.le h' ∧ ∃ regs plc, Run (pairsR (along N arcs zs).2 arcs.length) (maxes (along N arcs zs).2) arcs.length os regs plc ∧ (1024 < totalR regs → v = .tuple #[regV none 0 0 0, iv 5]) ∧ (totalR regs ≤ 1024 → ∃ A, v = .tuple #[regV (some A) arcs.length arcs.length (totalR regs), iv 0] ∧ RowAt h' 37 2 (some A) arcs.length arcs.length (regs.map pc).flatten ∧ h A.block = none)) → PlaceOkX h N arcs zs (fun o => o = os) v h' := fun v h' ⟨a, regs, plc, b⟩ => ⟨a, fun q => absurd hE q, fun _ => ⟨os, regs, plc, hop, rfl, b⟩⟩
      have hpk : (maxes (along N arcs zs).2).length = arcs.length := pks.len
      generalize pairsR (along N arcs zs).2 arcs.length = ps at tE hps hpl hfin ⊢
      generalize maxes (along N arcs zs).2 = pk at tF hpk hpb hou hfin ⊢
      clear pks pkb hb hg roE
      obtain ⟨m, hmm⟩ : ∃ m, m = arcs.length := ⟨_, rfl⟩
      rw [← hmm] at tF hpk hop hm hfin ⊢
      generalize hc1 : IR.block 0 (.loop ir8_l1) = c1
      generalize hc3 : IR.seq (.reg ir8_r21) (.block 4 (.loop ir8_l3)) = c3
      conv => whnf
      refine EvMake.mk m rfl rfl (by omega) (by omega) fun gl => ?_
      rw [show (madeCells #[Value.int IntKind.i64 0, Value.int IntKind.i64 0] (m * 2)).toList = _ from made_pc m]
      conv => whnf
      refine EvMake.one m (.bool false) rfl rfl rfl rfl (by omega) (by omega) fun gp => ?_
      conv => whnf
      refine EvMake.one m (.slice none 0 0) rfl rfl rfl rfl (by omega) (by omega) fun gn => ?_
      conv => whnf
      subst hc1
      conv => whnf
      refine .mkS [0, 1, 2, 3, 4] (Nat × (Nat → Addr)) [4, 6, 10, 12, 13, 14, 15] (fun (i, _) => [.p 1 0, .v (.slice E ps.length c), .v (.slice F m d), .v (.slice (some gl) m m), .v (.slice (some gp) m m), .v (.slice (some gn) m m), .v (iv i)])
        (fun (i, J) => Lp N A m cap ++ [.row 37 2 (some gl) m m ((szR pk m i).map pc).flatten, .row 4 1 (some gp) m m (List.replicate m (.bool false)), .row 55 1 (some gn) m m (nearC J m i)])
        (fun (i, J) h' => h3.le h' ∧ i ≤ m ∧ ∀ k, k < i → Tab h' 1 (some (J k)) m ((List.range m).map fun j : Nat => [Value.bool (pairedB ps k j)])) (fun (i, _) => m - i) (0, fun _ => gn) (fun (_, _) => rfl)
        ⟨Hp.le_refl _, Nat.zero_le _, fun k hk => by omega⟩ rfl rfl rfl ?_
      rintro ⟨i, J⟩ e h' ⟨hle, hi, hin⟩
      refine .done ?_
      conv => whnf
      refine br_dec (fun u => ?_) (fun u => ?_)
      · have hi' : i < m := by omega
        obtain ⟨gF, hgF⟩ := tF.ad (by omega)
        have hszl := szR_len hpk (Nat.le_of_lt hi')
        have hfl : (((szR pk m i).map pc).flatten).length = m * 2 := by
          rw [flat_wid (size := 2) _ (fun r hr => by obtain ⟨x, _, rfl⟩ := List.mem_map.1 hr; rfl), List.length_map, hszl]
        conv => whnf
        refine .mk gF hgF (by omega) (by omega) ?_
        conv => whnf
        refine .hp (iv (pk.getD i 0)) (by rw [Int.toNat_natCast]; exact (tF.mono hle).one hgF (r := [iv (pk.getD i 0)]) (by rw [List.getElem?_map, List.getElem?_eq_getElem (by omega), List.getD_eq_getElem?_getD, List.getElem?_eq_getElem (by omega)]; rfl) rfl) ?_
        conv => whnf
        refine .mk gl rfl (by omega) (by omega) ?_
        conv => whnf
        refine .row 2 37 2 gl m m _ _ (i * 2 + 1) rfl (by rw [Int.toNat_natCast, add_add]) (over_one _ _ _ (by omega)) ?_
        rw [set_snd _ _ _ (by omega), szR_step hpk hi']
        conv => whnf
        refine EvMake.one m (.bool false) rfl rfl rfl rfl (by omega) (by omega) fun g => ?_
        conv => whnf
        refine .mk gn rfl (by omega) (by omega) ?_
        conv => whnf
        refine .row 4 55 1 gn m m _ _ i rfl (by rw [Int.toNat_natCast, Nat.mul_one]) (over_one _ _ _ (by rw [nearC_len (Nat.le_of_lt hi')]; exact hi')) ?_
        rw [nearC_step hi' g]
        conv => whnf
        refine .mk Nat [4, 6, 10, 12, 13, 14, 15, 16] (fun j => [.p 1 0, .v (.slice E ps.length c), .v (.slice F m d), .v (.slice (some gl) m m), .v (.slice (some gp) m m), .v (.slice (some gn) m m), .v (iv i), .v (iv j)])
          (fun j => Lp N A m cap ++ [.row 37 2 (some gl) m m ((szR pk m (i + 1)).map pc).flatten, .row 4 1 (some gp) m m (List.replicate m (.bool false)), .row 55 1 (some gn) m m (nearC (upJ2 J i g) m (i + 1)), .row 4 1 (some g) m m (rowB ps m i j)])
          (fun j h'' => h'' = h' ∧ j ≤ m) (fun j => m - j) 0 (fun _ => rfl) ⟨rfl, Nat.zero_le _⟩ rfl rfl ?_
        rintro j e2 h'' ⟨rfl, hj⟩
        conv => whnf
        refine br_dec (fun u2 => ?_) (fun u2 => ?_)
        · have hj' : j < m := by omega
          conv => whnf
          refine .mk gn rfl (by omega) (by omega) ?_
          conv => whnf
          refine .row 4 55 1 gn m m _ i (.slice (some g) m m) rfl (by rw [Int.toNat_natCast, Nat.mul_one]) (by rw [nearC_get (Nat.lt_succ_self i)]; unfold upJ2; rw [if_pos rfl]) ?_
          conv => whnf
          refine .mk _ (paired28 E ps.length c ps i j h'' (tE.mono hle) (by omega)) ?_ ?_
          · rintro _ _ ⟨rfl, rfl⟩; exact Hp.le_refl _
          rintro _ _ ⟨rfl, rfl⟩
          conv => whnf
          refine .mk g rfl (by omega) (by omega) ?_
          conv => whnf
          refine .row 5 4 1 g m m _ _ j rfl (by rw [Int.toNat_natCast, Nat.mul_one]) (over_one _ _ _ (by rw [rowB_len (Nat.le_of_lt hj')]; exact hj')) ?_
          rw [rowB_step hj']
          conv => whnf
          refine .ok (by omega) (by omega) ?_
          conv => whnf
          exact ⟨j + 1, rfl, rfl, ⟨rfl, hj'⟩, by omega⟩
        · have : j = m := by omega
          subst this
          conv => whnf
          refine .ok (by omega) (by omega) ?_
          conv => whnf
          refine .pub 5 4 1 (some g) j j _ rfl fun h4 l4 ro4 f4 => .done ⟨(i + 1, upJ2 J i g), rfl, rfl, ⟨Hp.le_trans hle l4, hi', fun k hk => ?_⟩, by show j - (i + 1) < j - i; omega⟩
          by_cases e : k = i
          · subst e
            unfold upJ2
            rw [if_pos rfl]
            rw [rowB_all] at ro4
            exact ro4.tab (fun r hr => by obtain ⟨x, _, rfl⟩ := List.mem_map.1 hr; rfl) (by decide)
          · unfold upJ2
            rw [if_neg e]
            exact (hin k (by omega)).mono l4
      · have him : i = m := by omega
        subst him
        subst hc3
        conv => whnf
        refine .shf (.pub 4 55 1 (some gn) _ _ _ rfl fun h5 l5 ro5 f5 => .pub 2 37 2 (some gl) _ _ _ rfl fun h6 l6 ro6 f6 => .pub 3 4 1 (some gp) _ _ _ rfl fun h7 l7 ro7 f7 => .done ?_)
        obtain ⟨bn, rfl, hbn⟩ := ro5.whole
        obtain ⟨bl, rfl, hbl⟩ := ro6.whole
        obtain ⟨bp, rfl, hbp⟩ := ro7.whole
        have fl := f6 _ rfl
        have fp := f7 _ rfl
        simp only at fl fp
        have hne : bl ≠ bp := fun q => by rw [q] at hbl; rw [fp] at hbl; cases hbl
        have fp5 : h5 bp = none := Hp.none_le l6 fp
        have hst : h7 = hD h7 bl bp (pk.map fun z => ((0 : Int), z)) (List.replicate i false) := by
          funext j
          unfold hD
          by_cases e1 : j = bp
          · subst e1
            rw [Hp.put_same, hbp]
            congr 2
            simp
          · rw [Hp.put_ne _ _ e1]
            by_cases e2 : j = bl
            · subst e2
              rw [Hp.put_same, l7 _ _ hbl]
              congr 3
              unfold szR
              rw [Nat.sub_self, List.replicate_zero, List.append_nil, List.take_of_length_le (by omega)]
            · rw [Hp.put_ne _ _ e2]
        have hleD : ∀ l plc, h5.le (hD h7 bl bp l plc) := fun l plc => Hp.le_put_of (Hp.le_put_of (Hp.le_trans l6 l7) fl) fp5
        have hle5 := Hp.le_trans hle l5
        have nrD : ∀ l plc, NearAt (hD h7 bl bp l plc) (some ⟨bn, 0, none⟩) i (fun k => (some (J k), i)) (fun k j => pairedB ps k j) := fun l plc => by
          refine NearAt.mono (h := h5) ⟨?_, fun k hk => (hin k hk).mono l5⟩ (hleD l plc)
          rw [nearC_all] at ro5
          exact ro5.tab (fun r hr => by obtain ⟨x, _, rfl⟩ := List.mem_map.1 hr; rfl) (by decide)
        clear hin
        refine .mk (Nat × List Pr × List Bool) [4, 10, 12, 13, 14, 90, 91] (fun (k, _, _) => [.p 1 0, .v (.slice F i d), .v (.slice (some ⟨bl, 0, none⟩) i i), .v (.slice (some ⟨bp, 0, none⟩) i i), .v (.slice (some ⟨bn, 0, none⟩) i i), .v (iv i), .v (iv k)])
          (fun _ => Lp N A i cap) (fun (k, regs, plc) h' => k ≤ i ∧ Run ps pk i (os.take k) regs plc ∧ h' = hD h7 bl bp (docR pk (os.take k) regs i) plc) (fun (k, _, _) => i - k) (0, List.replicate i (0, 0), List.replicate i false) (fun (_, _, _) => rfl)
          ⟨Nat.zero_le _, .nil, by rw [List.take_zero, docR_nil pk i hpk]; exact hst⟩ rfl rfl ?_
        rintro ⟨k, regs, plc⟩ e3 h' ⟨hk, run, rfl⟩
        obtain ⟨rl, pll⟩ := run.lens
        have hol : os.length = i := by rw [hop.length_eq, List.length_range]
        have dl := docR_len pk (os.take k) regs i
        conv => whnf
        refine br_dec (fun u3 => ?_) (fun u3 => ?_)
        · have hk' : k < i := by omega
          have hka : k < os.length := by omega
          obtain ⟨gF, hgF⟩ := tF.ad (by omega)
          have hpl' := run_pl run hop
          conv => whnf
          refine .mk (Nat × Int) [4, 10, 12, 13, 14, 17, 18, 90, 91] (fun (j, x) => [.p 1 0, .v (.slice F i d), .v (.slice (some ⟨bl, 0, none⟩) i i), .v (.slice (some ⟨bp, 0, none⟩) i i), .v (.slice (some ⟨bn, 0, none⟩) i i), .v (iv x), .v (iv j), .v (iv i), .v (iv k)])
            (fun _ => Lp N A i cap) (fun (j, x) h' => h' = hD h7 bl bp (docR pk (os.take k) regs i) plc ∧ j ≤ i ∧ Nxt pk plc j x) (fun (j, _) => i - j) (0, -1) (fun (_, _) => rfl) ⟨rfl, Nat.zero_le _, Nxt.start pk plc⟩ rfl rfl ?_
          rintro ⟨j, x⟩ e4 h' ⟨rfl, hj, nx⟩
          have tP := (hD_row_p (H := h7) (bl := bl) (bp := bp) (docR pk (os.take k) regs i) plc pll (by omega))
          rw [flat_bools] at tP
          have tP := tP.tab (fun r hr => by obtain ⟨x, _, rfl⟩ := List.mem_map.1 hr; rfl) (by decide)
          conv => whnf
          refine br_dec (fun u4 => ?_) (fun u4 => ?_)
          · have hj' : j < i := by omega
            have ldF : ∀ q, q < i → (hD h7 bl bp (docR pk (os.take k) regs i) plc).cell? (gF.add ((q : Int).toNat * 1)) = some (iv (pk.getD q 0)) := fun q hq => by
              rw [Int.toNat_natCast]
              exact (tF.mono (Hp.le_trans hle5 (hleD _ _))).one hgF (r := [iv (pk.getD q 0)]) (by rw [List.getElem?_map, List.getElem?_eq_getElem (by omega), List.getD_eq_getElem?_getD, List.getElem?_eq_getElem (by omega)]; rfl) rfl
            conv => whnf
            refine .mk _ rfl (by omega) (by omega) ?_
            conv => whnf
            refine .hp (.bool (plc.getD j false)) (by rw [Int.toNat_natCast]; exact tP.one rfl (r := [.bool (plc.getD j false)]) (by rw [List.getElem?_map, List.getElem?_eq_getElem (by omega), List.getD_eq_getElem?_getD, List.getElem?_eq_getElem (by omega)]; rfl) rfl) ?_
            cases hpj : plc.getD j false with
            | true =>
              conv => whnf
              refine .ok (by omega) (by omega) ?_
              conv => whnf
              exact ⟨(j + 1, x), rfl, rfl, ⟨rfl, hj', nx.keep (.inl hpj)⟩, by show i - (j + 1) < i - j; omega⟩
            | false =>
              conv => whnf
              refine br_dec (fun u5 => ?_) (fun u5 => ?_)
              · conv => whnf
                refine .ok (by omega) (by omega) ?_
                conv => whnf
                exact ⟨(j + 1, (j : Int)), rfl, rfl, ⟨rfl, hj', nx.take hpj (.inl u5)⟩, by show i - (j + 1) < i - j; omega⟩
              · have hx0 : 0 ≤ x := by omega
                have hxi := (nx.some_ hx0).1
                obtain ⟨x, rfl⟩ := Int.eq_ofNat_of_zero_le hx0
                rw [Int.toNat_natCast] at hxi
                conv => whnf
                refine .mk gF hgF (by omega) (by omega) ?_
                conv => whnf
                refine .hp _ (ldF j hj') ?_
                conv => whnf
                refine .mk gF hgF (by omega) (by omega) ?_
                conv => whnf
                refine .hp _ (ldF x (by omega)) ?_
                conv => whnf
                refine br_dec (fun u6 => ?_) (fun u6 => ?_)
                · conv => whnf
                  refine .ok (by omega) (by omega) ?_
                  conv => whnf
                  exact ⟨(j + 1, (j : Int)), rfl, rfl, ⟨rfl, hj', nx.take hpj (.inr (by rw [Int.toNat_natCast]; omega))⟩, by show i - (j + 1) < i - j; omega⟩
                · conv => whnf
                  refine .ok (by omega) (by omega) ?_
                  conv => whnf
                  exact ⟨(j + 1, (x : Int)), rfl, rfl, ⟨rfl, hj', nx.keep (.inr ⟨by omega, by rw [Int.toNat_natCast]; omega⟩)⟩, by show i - (j + 1) < i - j; omega⟩
          · have : j = i := by omega
            subst this
            obtain rfl := nx.is hop hou hka hpl'
            have ha : os[k] < j := List.mem_range.1 (hop.mem_iff.1 (List.getElem_mem hka))
            have hnot : os[k] ∉ os.take k := fun q => by
              have h1 := (hpl' _).2 q
              have := (nx.some_ (by omega)).2.1
              rw [Int.toNat_natCast, h1] at this
              cases this
            have hdg : (docR pk (os.take k) regs j).getD os[k] (0, 0) = (0, pkAt pk os[k]) := by rw [docR_get ha, if_neg hnot]
            obtain ⟨ys, srt⟩ := sorted_ex (busyR (nearR ps (os[k] : Nat)) regs plc)
            have hbb := run.bnd hpb
            have bs : Bs (hD h7 bl bp (docR pk (os.take k) regs j) plc) j (some ⟨bl, 0, none⟩) (some ⟨bp, 0, none⟩) (some ⟨bn, 0, none⟩) (fun k => (some (J k), j)) (fun k j => pairedB ps k j) (docR pk (os.take k) regs j) plc :=
              ⟨(hD_row_l hne _ _ dl (by omega)).tab2, tP, nrD _ _, by omega, fun q hq => by
                unfold regAt
                rw [docR_get hq]
                have h1 := hpb q
                have h2 : (os.take k).length ≤ 96 := by rw [List.length_take]; omega
                split
                · have : regAt regs q ∈ regs := by
                    unfold regAt
                    rw [List.getD_eq_getElem?_getD, List.getElem?_eq_getElem (by omega)]
                    exact List.getElem_mem _
                  have := hbb _ this
                  omega
                · unfold pkAt
                  simp only
                  omega⟩
            have hC := cand_busy run hop hpl (a := os[k]) hpl' hnot
            have hC' : ∀ y, y ∈ ys ↔ ∃ q, q < j ∧ candR (docR pk (os.take k) regs j) plc (fun k j => pairedB ps k j) os[k] q = some y := fun y => (srt.perm.mem_iff).trans (hC y)
            conv => whnf
            refine .done (.mk _ (base29 (ca := j) (cb := j) (cc := j) bs ha ys hC' srt.ord) ?_)
            rintro _ _ ⟨rfl, rfl⟩
            have hra : (regAt (docR pk (os.take k) regs j) os[k]).2 = pk.getD os[k] 0 := by unfold regAt; rw [hdg]; rfl
            rw [hra]
            obtain ⟨x, hx⟩ : ∃ x, x = foldB (pk.getD os[k] 0) ys := ⟨_, rfl⟩
            have hx2 : x = (x.1, pkAt pk os[k]) := by rw [hx]; exact Prod.ext rfl (foldB_base _ _).1
            rw [← hx]
            have hstep := docR_step (pk := pk) (os := os.take k) rl ha x.1
            have run2 := Run.step os[k] ys run srt
            rw [← hx] at run2
            have ht1 : os.take (k + 1) = os.take k ++ [os[k]] := by rw [List.take_add_one, List.getElem?_eq_getElem hka]; rfl
            rw [← hx2] at hstep
            have hfst := set_fst (docR pk (os.take k) regs j) os[k] x.1 (by omega)
            rw [hdg] at hfst
            simp only at hfst
            rw [← hx2, ← hstep] at hfst
            have hfl : (((docR pk (os.take k) regs j).map pc).flatten).length = j * 2 := by
              rw [flat_wid (size := 2) _ (fun r hr => by obtain ⟨x, _, rfl⟩ := List.mem_map.1 hr; rfl), List.length_map, dl]
            conv => whnf
            refine .mk _ rfl (by omega) (by omega) ?_
            conv => whnf
            refine .hp bl (os[k] * 2) 37 _ _ (by rw [Int.toNat_natCast, add_lit, Nat.zero_add, add_lit, Nat.add_zero]) (hD_l hne _ _) (over_one _ _ _ (by omega)) ?_
            rw [hfst, hD_setl hne]
            conv => whnf
            refine .mk _ rfl (by omega) (by omega) ?_
            conv => whnf
            refine .hp bp os[k] 4 _ _ (by rw [Int.toNat_natCast, Nat.mul_one, add_lit, Nat.zero_add]) (hD_p _ _ _ _ _) (over_one _ _ _ (by simp; omega)) ?_
            rw [show (plc.map Value.bool).set os[k] (.bool true) = (plc.set os[k] true).map Value.bool from by simp [List.map_set], hD_setp]
            conv => whnf
            refine .ok (by omega) (by omega) ?_
            conv => whnf
            exact ⟨(k + 1, regs.set os[k] x, plc.set os[k] true), rfl, rfl, ⟨by omega, by rw [ht1]; exact run2, by rw [ht1]⟩, by show j - (k + 1) < j - k; omega⟩
        · have : k = i := by omega
          subst this
          have e0 : os.take k = os := List.take_of_length_le (by omega)
          rw [e0] at run
          have hdR := docR_all run hop
          rw [e0, hdR]
          have hrb := run.bnd hpb
          have hSm : ∀ x ∈ regs, Sm x := fun x hx => by
            have := hrb x hx
            exact ⟨by omega, by omega, by omega, by omega⟩
          have rL := hD_row_l (H := h7) (bl := bl) (bp := bp) (m := k) hne regs plc rl (by omega)
          have tL := rL.tab2
          have hlast : h.le (hD h7 bl bp regs plc) := Hp.le_trans l13 (Hp.le_trans hle5 (hleD _ _))
          conv => whnf
          refine .done (.mk _ (cells30 _ _ _ regs _ tL hSm (by omega)) ?_)
          rintro _ _ ⟨rfl, rfl⟩
          conv => whnf
          refine br_dec (fun w => ?_) (fun w => ?_)
          · conv => whnf
            exact .done (hfin _ _ ⟨hlast, regs, plc, run, fun _ => rfl, fun q => absurd w (by omega)⟩)
          · conv => whnf
            refine .done (.mk _ (cells30 _ _ _ regs _ tL hSm (by omega)) ?_)
            rintro _ _ ⟨rfl, rfl⟩
            conv => whnf
            exact .done (hfin _ _ ⟨hlast, regs, plc, run, fun q => absurd q w, fun _ => ⟨⟨bl, 0, none⟩, rfl, rL, Hp.none_le (Hp.le_trans l13 hle5) fl⟩⟩)
    · have hh : homeOf N arcs zs = false := by simpa using hh
      rw [hh]
      have hE : lookE N arcs zs = 181 := by unfold lookE; rw [if_neg (fun q => q hal), if_neg (by rw [hh]; decide)]
      conv => whnf
      exact .done ⟨l12, fun _ => by rw [hE]; rfl, fun q => by rw [hE] at q; cases q⟩
  · obtain rfl := hb hal
    have hE : lookE N arcs zs = (along N arcs zs).1 := by unfold lookE; rw [if_pos hal]
    conv => whnf
    refine br_dec (fun _ => ?_) (fun q => absurd hal q)
    conv => whnf
    exact .done ⟨l1, fun _ => by rw [hE]; rfl, fun q => by rw [hE] at q; exact absurd q hal⟩
end Go.Sx
namespace Go.Sx
open Go.Proofs Go.Sort
set_option maxRecDepth 100000
theorem place17x (N : Int) (n cap : Nat) (arcs : List Arc) (A D : Option Addr) (r cap2 : Nat) (zs : List Int) (h : Hp) (ht : Tab h 5 A n (arcs.map Arc.cells)) (hn : n * 40 ≤ 140737488355328) (hz : Tab h 1 D r (zs.map fun z => [iv z])) (R : List Nat → Prop)
    (hst : lookE N arcs zs = 0 → StabOk arcs.length (maxes (along N arcs zs).2) R) :
    Fn Tryz.prog 7 #[netV N A n cap, .slice D r cap2] h fun v h' => PlaceOkX h N arcs zs R v h' := by
  refine Fn.intro (args := [netV N A n cap, .slice D r cap2]) mix14 Tryz.func7 rfl (by decide) Tryz.ntmps7 rfl (low7 rfl) rfl ?_
  conv => whnf
  refine .done (.mk _ (look35 N n cap arcs A D r cap2 zs h ht hn hz) ?_)
  rintro v h1 ⟨l1, hb, hg⟩
  by_cases he : lookE N arcs zs = 0
  · have hst := hst he
    obtain ⟨E, c, F, d, rfl, tE, tF⟩ := hg he
    have hal : (along N arcs zs).1 = 0 := by
      refine Decidable.byContradiction fun q => ?_
      unfold lookE at he
      rw [if_pos q] at he
      exact q he
    have hchk := along_chk hal
    have hm := (chk_zero hchk).2.2.1
    obtain ⟨pks, pkb⟩ := look_peaks hal
    generalize hc1 : IR.block 0 (.loop ir7_l1) = c1
    generalize hc2 : IR.seq (.reg ir7_r14) (.block 2 (.loop ir7_l2)) = c2
    conv => whnf
    refine EvMake.one arcs.length (iv 0) rfl rfl rfl rfl (by omega) (by omega) fun g => ?_
    conv => whnf
    subst hc1
    have hpl : (pairsR (along N arcs zs).2 arcs.length).length ≤ 9216 := Nat.le_trans (all_pairs arcs.length _ ((pairs_sorted _ _).imp fun {a b} h e => by rw [e] at h; exact pl_irr _ h) fun p hp => by
      obtain ⟨i, j, e, a, b, _⟩ := pairs_mem.1 hp
      exact ⟨i, j, e, by omega, b⟩) (Nat.mul_le_mul hm hm)
    conv => whnf
    refine .mk Nat [4, 6, 8, 35, 36] (fun k => [.p 1 0, .p 2 0, .v (.slice (some g) arcs.length arcs.length), .v (iv arcs.length), .v (iv k)])
      (fun k => [.own [.v (iv N), .v (.slice A n cap)] 24, .own [.v (.slice none 0 0), .v (iv 0)] 30, .own [.v (.slice E (pairsR (along N arcs zs).2 arcs.length).length c), .v (.slice F arcs.length d)] 50, .row 3 1 (some g) arcs.length arcs.length (ordL arcs.length k)])
      (fun k h' => h' = h1 ∧ k ≤ arcs.length) (fun k => arcs.length - k) 0 (fun _ => rfl) ⟨rfl, Nat.zero_le _⟩ rfl rfl ?_
    rintro k e h' ⟨rfl, hk⟩
    conv => whnf
    refine br_dec (fun u => ?_) (fun u => ?_)
    · have hk' : k < arcs.length := by omega
      conv => whnf
      refine .mk g rfl (by omega) (by omega) ?_
      conv => whnf
      refine .row 3 3 1 g arcs.length arcs.length _ _ k rfl (by rw [Int.toNat_natCast, Nat.mul_one]) (over_one _ _ _ (by rw [ordL_len (by omega)]; exact hk')) ?_
      conv => whnf
      refine .ok (by omega) (by omega) ?_
      conv => whnf
      refine ⟨k + 1, rfl, ?_, ⟨rfl, hk'⟩, by omega⟩
      rw [← ordL_step hk']
      rfl
    · have hkm : k = arcs.length := by omega
      subst hkm
      have ho : ordL arcs.length arcs.length = (List.range arcs.length).map fun z : Nat => iv (z : Int) := by simp [ordL]
      rw [ho]
      conv => whnf
      refine .mk fun q hq => ?_
      conv => whnf
      refine .pub 3 3 1 (some g) arcs.length arcs.length _ rfl fun h3 l3 ro3 f3 => .done (.mk _ (hst h3 q E F _ c d ⟨l3 _ _ (Hp.put_same _ _ _), tF.mono (Hp.le_trans (Hp.le_put hq) l3)⟩ (some g) _ ro3 (fun gA gF e1 e2 h0 e3 => by
        injection e1 with e1
        subst e1
        have hfr := f3 g rfl
        by_cases hgq : g.block = q
        · rw [hgq, Hp.put_same] at hfr; cases hfr
        · rw [Hp.put_ne _ _ hgq] at hfr
          exact tF.blk h0 (by decide) e2 (by rw [← e3]; exact hfr))) ?_)
      rintro _ h4 ⟨rfl, os, hperm, hR, ro4, same⟩
      have gq : g.block ≠ q := fun e => by
        have := f3 g rfl
        rw [e, Hp.put_same] at this
        cases this
      have l14 : h'.le h4 := fun j o hj => by
        rw [same j fun g2 hg2 e => ?_]
        · exact l3 _ _ (Hp.le_put hq _ _ hj)
        · injection hg2 with hg2
          subst hg2
          have := f3 g rfl
          rw [Hp.put_ne _ _ gq, ← e, hj] at this
          cases this
      have hq4 : h4 q = some (.cells [.slice E (pairsR (along N arcs zs).2 arcs.length).length c, .slice F arcs.length d].toArray 50 (0, 0)) := by
        rw [same q fun g2 hg2 e => by injection hg2 with hg2; subst hg2; exact gq e.symm]
        exact l3 _ _ (Hp.put_same _ _ _)
      conv => whnf
      refine EvMake.mk arcs.length rfl rfl (by omega) (by omega) fun gR => ?_
      show putS 119 _ _ _ (setn _ 3 LE.gone ++ [LE.row 37 2 (some gR) _ _ (madeCells (#[iv 0, iv 0] : Array Value) (arcs.length * 2)).toList]) _ _
      rw [made_pc]
      conv => whnf
      refine EvMake.one arcs.length (.bool false) rfl rfl rfl rfl (by omega) (by omega) fun gP => ?_
      rw [show List.replicate arcs.length (Value.bool false) = (List.replicate arcs.length false).map Value.bool from by simp]
      conv => whnf
      subst hc2
      have P : Pl h4 q E F (some g) (pairsR (along N arcs zs).2 arcs.length).length c arcs.length d arcs.length (pairsR (along N arcs zs).2 arcs.length) (maxes (along N arcs zs).2) os := by
        refine ⟨⟨hq4, tF.mono l14⟩, tE.mono l14, ?_, by omega, by omega, fun a ha => List.mem_range.1 ((hperm.mem_iff).1 ha), fun p hp => ?_, fun i => ?_⟩
        · have := RowAt.one (l := os.map fun z : Nat => (z : Int)) (by rw [List.map_map]; exact ro4)
          rw [List.map_map] at this
          exact this
        · obtain ⟨i, j, rfl, a, b, _⟩ := pairs_mem.1 hp
          exact ⟨⟨by show (0 : Int) ≤ (i : Int); omega, by show (i : Int) < _; omega⟩, by show (0 : Int) ≤ (j : Int); omega, by show (j : Int) < _; omega⟩
        · by_cases hi : i < arcs.length
          · exact pkb i hi
          · rw [List.getD_eq_getElem?_getD, List.getElem?_eq_none (by rw [pks.len]; omega)]
            exact ⟨by decide, by decide⟩
      refine place2 P gR gP _ _ _ _ rfl fun e2 h5 regs plc l5 run he2 => ?_
      have hself := updL_self [4, 10] e2
      rw [he2] at hself
      rw [← hself]
      have hrb := run.bnd P.pb
      have hol : os.length ≤ 96 := by rw [hperm.length_eq, List.length_range]; exact hm
      have hSm : ∀ x ∈ regs, Sm x := fun x hx => by
        have := hrb x hx
        exact ⟨by omega, by omega, by omega, by omega⟩
      conv => whnf
      refine .pub 2 37 2 (some gR) _ _ _ rfl fun h6 l6 ro6 f6 => .done (.mk _ (total42 (some gR) _ _ regs h6 ro6.tab2 hSm (by omega)) ?_)
      rintro _ _ ⟨rfl, rfl⟩
      have l06 := Hp.le_trans l1 (Hp.le_trans l14 (Hp.le_trans l5 l6))
      conv => whnf
      refine br_dec (fun w => ?_) (fun w => ?_)
      · conv => whnf
        exact .done ⟨l06, fun q => absurd he q, fun _ => ⟨os, regs, plc, hperm, hR, run, fun _ => rfl, fun q => absurd w (by omega)⟩⟩
      · conv => whnf
        refine .done (.mk _ (total42 (some gR) _ _ regs _ ro6.tab2 hSm (by omega)) ?_)
        rintro _ _ ⟨rfl, rfl⟩
        conv => whnf
        exact .done ⟨l06, fun q => absurd he q, fun _ => ⟨os, regs, plc, hperm, hR, run, fun q => absurd q w, fun _ => ⟨gR, rfl, ro6, Hp.none_le (Hp.le_trans l1 (Hp.le_trans l14 l5)) (f6 _ rfl)⟩⟩⟩
  · obtain rfl := hb he
    conv => whnf
    refine br_dec (fun _ => ?_) (fun q => absurd he q)
    conv => whnf
    refine .done ⟨l1, fun _ => rfl, fun q => absurd q he⟩
theorem up_uniq {pk : List Int} {m : Nat} {a b : List Nat} (ha : a.Perm (List.range m)) (hb : b.Perm (List.range m)) (ua : Up pk a) (ub : Up pk b) : a = b :=
  (ha.trans hb.symm).eq_of_pairwise (fun _ _ _ _ h1 h2 => absurd (h1.tr h2) TB.irr) ua ub
def PlData (N : Int) (arcs : List Arc) (zs : List Int) (regs : List Pr) (t err : Int) : Prop :=
  (lookE N arcs zs ≠ 0 ∧ regs = [] ∧ t = 0 ∧ err = lookE N arcs zs) ∨ (lookE N arcs zs = 0 ∧ ∃ os r0 plc, os.Perm (List.range arcs.length) ∧ Up (maxes (along N arcs zs).2) os ∧ Run (pairsR (along N arcs zs).2 arcs.length) (maxes (along N arcs zs).2) arcs.length os r0 plc ∧ ((1024 < totalR r0 ∧ regs = [] ∧ t = 0 ∧ err = 5) ∨ (totalR r0 ≤ 1024 ∧ regs = r0 ∧ t = totalR r0 ∧ err = 0)))
theorem PlData.uniq {N : Int} {arcs : List Arc} {zs : List Int} {r1 r2 : List Pr} {t1 t2 e1 e2 : Int} (h1 : PlData N arcs zs r1 t1 e1) (h2 : PlData N arcs zs r2 t2 e2) : r1 = r2 ∧ t1 = t2 ∧ e1 = e2 := by
  rcases h1 with ⟨a, rfl, rfl, rfl⟩ | ⟨a, os, ra, pa, p, u, run, h1⟩
  · rcases h2 with ⟨_, rfl, rfl, rfl⟩ | ⟨b, _⟩
    · exact ⟨rfl, rfl, rfl⟩
    · exact absurd b a
  · rcases h2 with ⟨b, _⟩ | ⟨_, os2, rb, pb, p2, u2, run2, h2⟩
    · exact absurd a b
    · obtain rfl := up_uniq p p2 u u2
      have hal : (along N arcs zs).1 = 0 := by
        refine Decidable.byContradiction fun q => ?_
        unfold lookE at a
        rw [if_pos q] at a
        exact q a
      obtain ⟨pks, pkb⟩ := look_peaks hal
      obtain ⟨rfl, _⟩ := run_det run (fun i => by
        by_cases hi : i < arcs.length
        · exact pkb i hi
        · rw [List.getD_eq_getElem?_getD, List.getElem?_eq_none (by rw [pks.len]; omega)]
          exact ⟨by decide, by decide⟩) run2
      rcases h1 with ⟨x, rfl, rfl, rfl⟩ | ⟨x, rfl, rfl, rfl⟩ <;> rcases h2 with ⟨y, rfl, rfl, rfl⟩ | ⟨y, rfl, rfl, rfl⟩
      · exact ⟨rfl, rfl, rfl⟩
      · omega
      · omega
      · exact ⟨rfl, rfl, rfl⟩
theorem PlaceOkX.all {h h' : Hp} {N : Int} {arcs : List Arc} {zs : List Int} {R : List Nat → Prop} {v : Value} (x : PlaceOkX h N arcs zs R v h') (hR : ∀ os, R os → Up (maxes (along N arcs zs).2) os) : h.le h' ∧ ∃ regs t err E, PlData N arcs zs regs t err ∧ regs.length ≤ 96 ∧ v = .tuple #[regV E regs.length regs.length t, iv err] ∧ RowAt h' 37 2 E regs.length regs.length (regs.map pc).flatten ∧ ∀ g, E = some g → h g.block = none := by
  obtain ⟨l, b, g⟩ := x
  refine ⟨l, ?_⟩
  by_cases he : lookE N arcs zs = 0
  · obtain ⟨os, regs, plc, hp, hr, run, c1, c2⟩ := g he
    have hal : (along N arcs zs).1 = 0 := by
      refine Decidable.byContradiction fun q => ?_
      unfold lookE at he
      rw [if_pos q] at he
      exact q he
    have hm := (chk_zero (along_chk hal)).2.2.1
    by_cases q : 1024 < totalR regs
    · exact ⟨[], 0, 5, none, .inr ⟨he, os, regs, plc, hp, hR os hr, run, .inl ⟨q, rfl, rfl, rfl⟩⟩, Nat.zero_le _, c1 q, ⟨rfl, .inl ⟨rfl, rfl, rfl⟩⟩, fun _ e => by cases e⟩
    · obtain ⟨A, rfl, ro, f⟩ := c2 (by omega)
      have hl := run.lens.1
      refine ⟨regs, totalR regs, 0, some A, .inr ⟨he, os, regs, plc, hp, hR os hr, run, .inr ⟨by omega, rfl, rfl, rfl⟩⟩, by omega, by rw [hl], by rw [hl]; exact ro, fun g e => by injection e with e; subst e; exact f⟩
  · exact ⟨[], 0, lookE N arcs zs, none, .inl ⟨he, rfl, rfl, rfl⟩, Nat.zero_le _, b he, ⟨rfl, .inl ⟨rfl, rfl, rfl⟩⟩, fun _ e => by cases e⟩
end Go.Sx
