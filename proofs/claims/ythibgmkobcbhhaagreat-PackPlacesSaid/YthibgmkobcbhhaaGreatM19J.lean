/- Layer 19: the document's answer for Clash. Conditions: none. -/
import Derived.Test.YthibgmkobcbhhaaGreatM19L
import Derived.Test.YthibgmkobcbhhaaGreatM19K
namespace Go.Sx
open Go.Proofs Go.Sort
set_option maxRecDepth 100000
/-- one arc's pairs, up to another -/
def pairsI (rows : List (List Int)) (i j : Nat) : List Pr := ((List.range' (i + 1) (j - (i + 1))).filter (meets rows i)).map fun j : Nat => ((i : Int), (j : Int))
def pairsU (rows : List (List Int)) (m i : Nat) : List Pr := (List.range i).flatMap fun i => pairsI rows i m
theorem pairsU_all (rows : List (List Int)) (m : Nat) : pairsU rows m m = pairsR rows m := rfl
theorem pairsU_step (rows : List (List Int)) (m i : Nat) : pairsU rows m (i + 1) = pairsU rows m i ++ pairsI rows i m := by
  unfold pairsU; rw [List.range_succ, List.flatMap_append]; simp
theorem pairsI_start (rows : List (List Int)) (i : Nat) : pairsI rows i (i + 1) = [] := by simp [pairsI]
theorem pairsI_step (rows : List (List Int)) {i j : Nat} (h : i + 1 ≤ j) : pairsI rows i (j + 1) = pairsI rows i j ++ if meets rows i j = true then [((i : Int), (j : Int))] else [] := by
  unfold pairsI
  rw [show j + 1 - (i + 1) = (j - (i + 1)) + 1 by omega, List.range'_concat, List.filter_append, List.map_append]
  congr 1
  rw [show i + 1 + 1 * (j - (i + 1)) = j by omega]
  simp only [List.filter_cons, List.filter_nil]
  split <;> rfl
theorem pairsI_len (rows : List (List Int)) (i j : Nat) : (pairsI rows i j).length ≤ j := by
  unfold pairsI
  rw [List.length_map]
  refine Nat.le_trans (List.length_filter_le _ _) ?_
  rw [List.length_range']; omega
theorem pairsU_len (rows : List (List Int)) (m : Nat) : ∀ i, (pairsU rows m i).length ≤ i * m
  | 0 => by simp [pairsU]
  | i + 1 => by
    have h1 := pairsU_len rows m i
    have h2 := pairsI_len rows i m
    rw [pairsU_step, List.length_append, Nat.succ_mul]; omega
theorem len_one (l : List Pr) (p : Pr) : (l ++ [p]).length = l.length + 1 := by simp
theorem refClash12 (N : Int) (n cap : Nat) (arcs : List Arc) (A D : Option Addr) (r cap2 : Nat) (zs : List Int) (h : Hp) (ht : Tab h 5 A n (arcs.map Arc.cells)) (hn : n * 40 ≤ 140737488355328) (hz : Tab h 1 D r (zs.map fun z => [iv z])) :
    Fn Tryz.prog 25 #[netV N A n cap, .slice D r cap2] h fun v h' => ClashOk h N arcs zs v h' := by
  have hal : arcs.length = n := by simpa using ht.len
  refine Fn.intro (args := [netV N A n cap, .slice D r cap2]) mix14 Tryz.func25 rfl (by decide) Tryz.ntmps25 rfl (low25 rfl) rfl ?_
  conv => whnf
  refine .done (.mk _ (along13 N n cap arcs A D r cap2 zs h ht (by omega) hz) ?_)
  rintro v h1 ⟨hle, hb, hg⟩
  by_cases he : (along N arcs zs).1 = 0
  · obtain ⟨B, c, J, rfl, hL⟩ := hg he
    have hbnd := along_bnd he
    have hm := (chk_zero (along_chk he)).2.2.1
    have hsz := along_size N arcs zs
    obtain ⟨rows, hrows⟩ : ∃ rows, (along N arcs zs).2 = rows := ⟨_, rfl⟩
    have hfin : ∀ v h', (h.le h' ∧ ∃ E c, v = .tuple #[.slice E (pairsR rows arcs.length).length c, iv 0] ∧ RowAt h' 73 2 E (pairsR rows arcs.length).length c ((pairsR rows arcs.length).map pc).flatten ∧ ∀ g, E = some g → h g.block = none) → ClashOk h N arcs zs v h' := fun v h' ⟨a, E, c, b, d, e⟩ => ⟨a, fun q => absurd he q, fun _ => ⟨E, c, by rw [hrows]; exact b, by rw [hrows]; exact d, e⟩⟩
    rw [hrows] at hL hbnd hsz ⊢
    have hlen : ∀ i, i < rows.length → (rows.getD i []).length = n := fun i hi => by
      rw [List.getD_eq_getElem?_getD, List.getElem?_eq_getElem hi]
      exact (hbnd _ (List.getElem_mem hi)).1.trans hal
    subst hal
    conv => whnf
    refine .mkS [0] (Nat × Option Addr × Nat) [2, 6, 8, 9] (fun (i, E, ec) => [.p 0 0, .v (.slice B rows.length c), .v (.slice E (pairsU rows arcs.length i).length ec), .v (iv i)]) (fun _ => Lc N A arcs.length cap)
      (fun (i, E, ec) h' => h1.le h' ∧ i ≤ arcs.length ∧ RowAt h' 73 2 E (pairsU rows arcs.length i).length ec ((pairsU rows arcs.length i).map pc).flatten ∧ ∀ g, E = some g → h1 g.block = none) (fun (i, _, _) => arcs.length - i) (0, none, 0) (fun (_, _, _) => rfl)
      ⟨Hp.le_refl _, Nat.zero_le _, ⟨rfl, .inl ⟨rfl, rfl, rfl⟩⟩, fun _ e => by cases e⟩ rfl rfl rfl ?_
    rintro ⟨i, E, ec⟩ e h' ⟨h1le, hi, row, fE⟩
    refine .done ?_
    conv => whnf
    refine br_dec (fun u => ?_) (fun u => ?_)
    · have hi' : i < arcs.length := by omega
      conv => whnf
      refine .ok (by omega) (by omega) ?_
      conv => whnf
      refine .mkS [0] (Nat × Option Addr × Nat) [2, 6, 8, 9, 10] (fun (j, E, ec) => [.p 0 0, .v (.slice B rows.length c), .v (.slice E (pairsU rows arcs.length i ++ pairsI rows i j).length ec), .v (iv i), .v (iv j)]) (fun _ => Lc N A arcs.length cap)
        (fun (j, E, ec) h' => h1.le h' ∧ i + 1 ≤ j ∧ j ≤ arcs.length ∧ RowAt h' 73 2 E (pairsU rows arcs.length i ++ pairsI rows i j).length ec ((pairsU rows arcs.length i ++ pairsI rows i j).map pc).flatten ∧ ∀ g, E = some g → h1 g.block = none) (fun (j, _, _) => arcs.length - j) (i + 1, E, ec) (fun (_, _, _) => rfl)
        ⟨h1le, Nat.le_refl _, hi', by rw [pairsI_start, List.append_nil]; exact row, fE⟩ (by show _ = [SV.p 0 0, .v (.slice B rows.length c), .v (.slice E (pairsU rows arcs.length i ++ pairsI rows i (i + 1)).length ec), .v (iv i), .v (iv (i + 1 : Nat))]; rw [pairsI_start, List.append_nil]; rfl) rfl rfl ?_
      rintro ⟨j, E, ec⟩ e2 h2 ⟨l2, hij, hj, row2, fE2⟩
      have hX := delA_none l2 fE2
      have b1 := pairsU_len rows arcs.length i
      have b2 := pairsI_len rows i j
      have b3 : i * arcs.length ≤ 96 * 96 := Nat.mul_le_mul (by omega) hm
      have b4 : (pairsU rows arcs.length i ++ pairsI rows i j).length ≤ 10000 := by rw [List.length_append]; omega
      refine .abs 73 2 E _ ec _ row2 (.done ?_)
      conv => whnf
      refine br_dec (fun u1 => ?_) (fun u1 => ?_)
      · have hj' : j < arcs.length := by omega
        have hstep := pairsI_step rows (i := i) (j := j) hij
        conv => whnf
        refine .done (.mk _ (clash31 (hL.mono hX) hlen (by omega) hi' hj') ?_)
        rintro _ _ ⟨rfl, rfl⟩
        cases hme : meets rows i j with
        | true =>
          rw [hme, if_pos rfl] at hstep
          conv => whnf
          refine .done (.old 1 _ [iv i, iv j] rfl rfl (by intro u hu; simp at hu; rcases hu with rfl | rfl <;> rfl) (by simp only [maxLen]; omega) (by omega) fun E2 c2 _ => ?_)
          conv => whnf
          refine .ok (by omega) (by omega) ?_
          conv => whnf
          refine .pub 1 73 2 E2 _ c2 _ rfl fun h4 l4 ro4 f4 => .done ⟨(j + 1, E2, c2), ?_, rfl, ⟨Hp.le_trans hX l4, by omega, by omega, ?_, fun g hg => Hp.none_le hX (f4 g hg)⟩, by show arcs.length - (j + 1) < arcs.length - j; omega⟩
          · show _ = [SV.p 0 0, .v (.slice B rows.length c), .v (.slice E2 (pairsU rows arcs.length i ++ pairsI rows i (j + 1)).length c2), _, _]
            rw [hstep, ← List.append_assoc, len_one]; rfl
          · show RowAt h4 73 2 E2 (pairsU rows arcs.length i ++ pairsI rows i (j + 1)).length c2 _
            rw [hstep, ← List.append_assoc, len_one, List.map_append, List.flatten_append]
            exact ro4
        | false =>
          rw [hme] at hstep
          have hstep : pairsI rows i (j + 1) = pairsI rows i j := by rw [hstep]; exact List.append_nil _
          conv => whnf
          refine .ok (by omega) (by omega) ?_
          conv => whnf
          refine .pub 1 73 2 E _ ec _ rfl fun h4 l4 ro4 f4 => .done ⟨(j + 1, E, ec), ?_, rfl, ⟨Hp.le_trans hX l4, by omega, by omega, ?_, fun g hg => Hp.none_le hX (f4 g hg)⟩, by show arcs.length - (j + 1) < arcs.length - j; omega⟩
          · show _ = [SV.p 0 0, .v (.slice B rows.length c), .v (.slice E (pairsU rows arcs.length i ++ pairsI rows i (j + 1)).length ec), _, _]
            rw [hstep]; rfl
          · show RowAt h4 73 2 E (pairsU rows arcs.length i ++ pairsI rows i (j + 1)).length ec _
            rw [hstep]; exact ro4
      · have hjm : j = arcs.length := by omega
        subst hjm
        have hst := pairsU_step rows arcs.length i
        conv => whnf
        refine .ok (by omega) (by omega) ?_
        conv => whnf
        refine .pub 1 73 2 E _ ec _ rfl fun h4 l4 ro4 f4 => .done ⟨(i + 1, E, ec), ?_, rfl, ⟨Hp.le_trans hX l4, by omega, ?_, fun g hg => Hp.none_le hX (f4 g hg)⟩, by show arcs.length - (i + 1) < arcs.length - i; omega⟩
        · show _ = [SV.p 0 0, .v (.slice B rows.length c), .v (.slice E (pairsU rows arcs.length (i + 1)).length ec), _]
          rw [hst]; rfl
        · show RowAt h4 73 2 E (pairsU rows arcs.length (i + 1)).length ec _
          rw [hst]; exact ro4
    · have him : i = arcs.length := by omega
      subst him
      conv => whnf
      refine .done (hfin _ _ ⟨Hp.le_trans hle h1le, E, ec, rfl, row, fun g hg => Hp.none_le hle (fE g hg)⟩)
  · obtain rfl := hb he
    conv => whnf
    refine br_dec (fun _ => ?_) (fun q => absurd he q)
    conv => whnf
    exact .done ⟨hle, fun _ => rfl, fun q => absurd q he⟩
end Go.Sx
namespace Go.Sx
open Go.Proofs Go.Sort
set_option maxRecDepth 100000
theorem over_pc : ∀ (l : List Pr) (a : Nat) (x : Pr), a < l.length → over (l.map pc).flatten (a * 2) (pc x) = some ((l.set a x).map pc).flatten
  | [], a, x, h => by simp at h
  | y :: l, 0, x, _ => by
    show over (iv y.1 :: iv y.2 :: (l.map pc).flatten) 0 [iv x.1, iv x.2] = some (iv x.1 :: iv x.2 :: (l.map pc).flatten)
    cases hl : (l.map pc).flatten <;> simp [over]
  | y :: l, a + 1, x, h => by
    have ih := over_pc l a x (by simpa using h)
    have e : (a + 1) * 2 = a * 2 + 1 + 1 := by omega
    rw [e]
    show over (iv y.1 :: iv y.2 :: (l.map pc).flatten) (a * 2 + 1 + 1) (pc x) = some (iv y.1 :: iv y.2 :: ((l.set a x).map pc).flatten)
    simp only [over, ih]
theorem pc_row {l : List Pr} {a : Nat} (h : a < l.length) : ∀ k v, (pc l[a])[k]? = some v → ((l.map pc).flatten)[a * 2 + k]? = some v := by
  intro k v hv
  have hk : k < 2 := (List.getElem?_eq_some_iff.1 hv).1
  have h1 := pc_get l (a * 2 + k) (by omega)
  rw [h1, show (a * 2 + k) / 2 = a by omega, show (a * 2 + k) % 2 = k by omega]
  rw [getElem!_pos l.toArray a (by simpa using h)]
  match k, hk, hv with
  | 0, _, hv => exact hv
  | 1, _, hv => exact hv
abbrev Lr (q m : Nat) (gR gP : Addr) (regs : List Pr) (plc : List Bool) : List LE :=
  [.own [.v (.slice none 0 0), .v (iv 0)] 30, .pub q, .row 37 2 (some gR) m m (regs.map pc).flatten, .row 4 1 (some gP) m m (plc.map Value.bool)]
theorem place3 {H : Hp} {q m : Nat} {gR gP : Addr} {regs : List Pr} {plc : List Bool} (hr : regs.length = m) (hp : plc.length = m) {B : Option Addr} {cB : Nat} {near : List Int} (ht : Tab H 1 B near.length (near.map fun z => [iv z])) (hn : near.length ≤ 1000000) (hz : ∀ z ∈ near, 0 ≤ z ∧ z < m)
    (O : Option Addr) (cO nO k a : Nat) (Q : Post) (e : Env) (X : List LE)
    (he : [4, 6, 10, 11, 13, 14, 53, 54, 55, 61, 62, 63].map e = [.p 0 0, .p 1 0, .v (.slice (some gR) m m), .v (.slice (some gP) m m), .v (iv a), .v (.slice none 0 0), .v (.slice O nO cO), .v (iv nO), .v (iv k), .v (.slice B near.length cB), .v (iv near.length), .v (iv 0)])
    (hQ : ∀ e' h' E ec, H.le h' → (∀ g, E = some g → H g.block = none) → [4, 6, 10, 11, 13, 14, 53, 54, 55].map e' = [.p 0 0, .p 1 0, .v (.slice (some gR) m m), .v (.slice (some gP) m m), .v (iv a), .v (.slice E (busyR near regs plc).length ec), .v (.slice O nO cO), .v (iv nO), .v (iv k)] →
      Q .normal e' (Lr q m gR gP regs plc ++ [.row 37 2 E (busyR near regs plc).length ec ((busyR near regs plc).map pc).flatten]) h') :
    wpIR Tryz.prog 119 (.block 4 (.loop ir7_l3)) Q e (Lr q m gR gP regs plc ++ X) H := by
  have hself := updL_self [4, 6, 10, 11, 13, 14, 53, 54, 55, 61, 62, 63] e
  rw [he] at hself
  rw [← hself]
  conv => whnf
  refine .mkS [0, 1, 2, 3] (Nat × Option Addr × Nat) [4, 6, 10, 11, 13, 14, 53, 54, 55, 61, 62, 63] (fun (j, E, ec) => [.p 0 0, .p 1 0, .v (.slice (some gR) m m), .v (.slice (some gP) m m), .v (iv a), .v (.slice E (busyR (near.take j) regs plc).length ec), .v (.slice O nO cO), .v (iv nO), .v (iv k), .v (.slice B near.length cB), .v (iv near.length), .v (iv j)])
    (fun _ => Lr q m gR gP regs plc)
    (fun (j, E, ec) h' => H.le h' ∧ j ≤ near.length ∧ RowAt h' 37 2 E (busyR (near.take j) regs plc).length ec ((busyR (near.take j) regs plc).map pc).flatten ∧ ∀ g, E = some g → H g.block = none) (fun (j, _, _) => near.length - j) (0, none, 0) (fun (_, _, _) => rfl)
    ⟨Hp.le_refl _, Nat.zero_le _, ⟨rfl, .inl ⟨rfl, rfl, rfl⟩⟩, fun _ e => by cases e⟩ rfl rfl rfl ?_
  rintro ⟨j, E, ec⟩ e h' ⟨hle, hj, row, fE⟩
  have hX := delA_none hle fE
  have hlen : (busyR (near.take j) regs plc).length ≤ j := by
    unfold busyR
    exact Nat.le_trans (List.length_filterMap_le _ _) (by simp; omega)
  refine .abs 37 2 E _ ec _ row (.done ?_)
  conv => whnf
  refine br_dec (fun u => ?_) (fun u => ?_)
  · have hj' : j < near.length := by omega
    obtain ⟨g, hg⟩ := ht.ad (by omega)
    obtain ⟨z, hzz⟩ : ∃ z, z = near[j] := ⟨_, rfl⟩
    have hget : (near.map fun z => [iv z])[j]? = some [iv z] := by rw [List.getElem?_map, List.getElem?_eq_getElem hj', hzz]; rfl
    obtain ⟨z0, z1⟩ := hz z (by rw [hzz]; exact List.getElem_mem hj')
    have hzn : z.toNat < m := by omega
    have e1 : near.take (j + 1) = near.take j ++ [z] := by rw [List.take_add_one, List.getElem?_eq_getElem hj', hzz]; rfl
    have e2 := busyR_snoc (near.take j) z regs plc
    rw [← e1] at e2
    conv => whnf
    refine .mk g hg (by omega) (by omega) ?_
    conv => whnf
    refine .hp (iv z) (by rw [Int.toNat_natCast]; exact (ht.mono hX).one hg hget rfl) ?_
    conv => whnf
    refine .mk gP rfl z0 z1 ?_
    conv => whnf
    refine .row 3 4 1 gP m m _ z.toNat (.bool (plc[z.toNat]'(by omega))) rfl (by rw [Nat.mul_one]) (by rw [List.getElem?_map, List.getElem?_eq_getElem (by omega)]; rfl) ?_
    have hgd : plc.getD z.toNat false = plc[z.toNat]'(by omega) := by rw [List.getD_eq_getElem?_getD, List.getElem?_eq_getElem (by omega)]; rfl
    cases hpz : plc[z.toNat]'(by omega) with
    | true =>
      have hb : busyR [z] regs plc = [regs[z.toNat]'(by omega)] := by
        simp only [busyR, List.filterMap_cons, List.filterMap_nil, hgd, hpz, if_true]
        rw [List.getD_eq_getElem?_getD, List.getElem?_eq_getElem (by omega)]; rfl
      rw [hb] at e2
      conv => whnf
      refine .mk gR rfl z0 z1 ?_
      conv => whnf
      refine .row 2 37 2 gR m m _ (z.toNat * 2) (pc (regs[z.toNat]'(by omega))) rfl rfl rfl (pc_row (by omega)) ?_
      conv => whnf
      refine .done (.old 4 _ (pc (regs[z.toNat]'(by omega))) rfl rfl (by intro u hu; simp [pc] at hu; rcases hu with rfl | rfl <;> rfl) (by simp [maxLen]; omega) (by omega) fun E2 c2 _ => ?_)
      conv => whnf
      refine .ok (by omega) (by omega) ?_
      conv => whnf
      refine .pub 4 37 2 E2 _ c2 _ rfl fun h4 l4 ro4 f4 => .done ⟨(j + 1, E2, c2), ?_, rfl, ⟨Hp.le_trans hX l4, hj', ?_, fun g hg => Hp.none_le hX (f4 g hg)⟩, by show near.length - (j + 1) < near.length - j; omega⟩
      · show _ = [SV.p 0 0, .p 1 0, .v (.slice (some gR) m m), .v (.slice (some gP) m m), .v (iv a), .v (.slice E2 (busyR (near.take (j + 1)) regs plc).length c2), _, _, _, _, _, _]
        rw [e2, List.length_append]; rfl
      · show RowAt h4 37 2 E2 (busyR (near.take (j + 1)) regs plc).length c2 _
        rw [e2, List.length_append, List.map_append, List.flatten_append]
        exact ro4
    | false =>
      have hb : busyR [z] regs plc = [] := by
        simp only [busyR, List.filterMap_cons, List.filterMap_nil, hgd, hpz]
        rfl
      rw [hb, List.append_nil] at e2
      conv => whnf
      refine .ok (by omega) (by omega) ?_
      conv => whnf
      refine .pub 4 37 2 E _ ec _ rfl fun h4 l4 ro4 f4 => .done ⟨(j + 1, E, ec), ?_, rfl, ⟨Hp.le_trans hX l4, hj', ?_, fun g hg => Hp.none_le hX (f4 g hg)⟩, by show near.length - (j + 1) < near.length - j; omega⟩
      · show _ = [SV.p 0 0, .p 1 0, .v (.slice (some gR) m m), .v (.slice (some gP) m m), .v (iv a), .v (.slice E (busyR (near.take (j + 1)) regs plc).length ec), _, _, _, _, _, _]
        rw [e2]; rfl
      · show RowAt h4 37 2 E (busyR (near.take (j + 1)) regs plc).length ec _
        rw [e2]; exact ro4
  · have : j = near.length := by omega
    subst this
    have e0 : near.take near.length = near := List.take_of_length_le (Nat.le_refl _)
    conv => whnf
    have e3 : busyR (near.take near.length) regs plc = busyR near regs plc := by rw [e0]
    rw [e0]
    refine hQ _ _ E ec hX fE ?_
    rw [← e3]
    rfl
end Go.Sx
namespace Go.Sx
open Go.Proofs Go.Sort
set_option maxRecDepth 100000
theorem place4 {H : Hp} {q m : Nat} {gR gP : Addr} {regs : List Pr} {plc : List Bool} {E : Option Addr} {ec : Nat} {ys : List Pr} (ht : Tab H 2 E ys.length (ys.map pc)) (hn : ys.length ≤ 1000000) {s : Int} (hs0 : 0 ≤ s) (hs1 : s ≤ 131328) (hy : ∀ y ∈ ys, 0 ≤ y.1 ∧ 0 ≤ y.2 ∧ y.1 + y.2 ≤ 100000000000)
    (O : Option Addr) (cO nO k a : Nat) (Q : Post) (e : Env)
    (he : [4, 6, 10, 11, 13, 14, 17, 53, 54, 55].map e = [.p 0 0, .p 1 0, .v (.slice (some gR) m m), .v (.slice (some gP) m m), .v (iv a), .v (.slice E ys.length ec), .p 5 0, .v (.slice O nO cO), .v (iv nO), .v (iv k)])
    (hQ : ∀ e', [4, 6, 10, 11, 13, 17, 53, 54, 55].map e' = [.p 0 0, .p 1 0, .v (.slice (some gR) m m), .v (.slice (some gP) m m), .v (iv a), .p 4 0, .v (.slice O nO cO), .v (iv nO), .v (iv k)] →
      Q .normal e' (Lr q m gR gP regs plc ++ [.own [.v (iv (foldB s ys).1), .v (iv (foldB s ys).2)] 37]) H) :
    wpIR Tryz.prog 119 (.seq (.reg ir7_r26) (.block 6 (.loop ir7_l4))) Q e (Lr q m gR gP regs plc ++ [.gone, .own [.v (iv 0), .v (iv s)] 37]) H := by
  have hself := updL_self [4, 6, 10, 11, 13, 14, 17, 53, 54, 55] e
  rw [he] at hself
  rw [← hself]
  conv => whnf
  refine .mkP [0, 1, 2, 3, 5] Nat [4, 6, 10, 11, 13, 17, 53, 54, 55, 87, 88, 89] (fun j => [.p 0 0, .p 1 0, .v (.slice (some gR) m m), .v (.slice (some gP) m m), .v (iv a), .p 4 0, .v (.slice O nO cO), .v (iv nO), .v (iv k), .v (.slice E ys.length ec), .v (iv ys.length), .v (iv j)])
    (fun j => Lr q m gR gP regs plc ++ [.own [.v (iv (foldB s (ys.take j)).1), .v (iv (foldB s (ys.take j)).2)] 37])
    (fun j h' => h' = H ∧ j ≤ ys.length) (fun j => ys.length - j) 0 (fun _ => rfl) ⟨rfl, Nat.zero_le _⟩ rfl rfl rfl ?_
  rintro j e h' ⟨rfl, hj⟩
  obtain ⟨f1, f2, f3⟩ := foldB_bnd (s := s) (B := 100000000000) (ys := ys.take j) (by decide) fun y h => hy y (List.mem_of_mem_take h)
  conv => whnf
  refine br_dec (fun u => ?_) (fun u => ?_)
  · have hj' : j < ys.length := by omega
    obtain ⟨g, hg⟩ := ht.ad (by omega)
    obtain ⟨y, hyy⟩ : ∃ y, y = ys[j] := ⟨_, rfl⟩
    have hget : (ys.map pc)[j]? = some (pc y) := by rw [List.getElem?_map, List.getElem?_eq_getElem hj', hyy]; rfl
    obtain ⟨y1, y2, y3⟩ := hy y (by rw [hyy]; exact List.getElem_mem hj')
    have e1 : ys.take (j + 1) = ys.take j ++ [y] := by rw [List.take_add_one, List.getElem?_eq_getElem hj', hyy]; rfl
    have e2 := foldB_snoc s (ys.take j) y
    rw [← e1] at e2
    unfold shiftR at e2
    conv => whnf
    refine .mk g hg (by omega) (by omega) ?_
    conv => whnf
    refine .hp (pc y) rfl (by rw [Int.toNat_natCast]; exact ht.row hg hget) ?_
    conv => whnf
    refine .done (.mk _ (share41 (foldB s (ys.take j)) y h' ⟨by omega, by omega, by omega, by omega⟩ ⟨by omega, by omega, by omega, by omega⟩) ?_)
    rintro _ _ ⟨rfl, rfl⟩
    cases hsh : shareR (foldB s (ys.take j)) y with
    | true =>
      rw [hsh, if_pos rfl] at e2
      conv => whnf
      refine .ok (by omega) (by omega) ?_
      conv => whnf
      refine .ok (by omega) (by omega) ?_
      conv => whnf
      refine ⟨j + 1, rfl, ?_, ⟨rfl, hj'⟩, by omega⟩
      rw [e2]
      rfl
    | false =>
      rw [hsh] at e2
      have e2 : foldB s (ys.take (j + 1)) = foldB s (ys.take j) := e2
      conv => whnf
      refine .ok (by omega) (by omega) ?_
      conv => whnf
      refine ⟨j + 1, rfl, ?_, ⟨rfl, hj'⟩, by omega⟩
      rw [e2]
      rfl
  · have : j = ys.length := by omega
    subst this
    have e0 : ys.take ys.length = ys := List.take_of_length_le (Nat.le_refl _)
    rw [e0]
    conv => whnf
    exact hQ _ rfl
end Go.Sx
namespace Go.Sx
open Go.Proofs Go.Sort
set_option maxRecDepth 100000
theorem near_mem {ps : List Pr} {arc z : Int} (h : z ∈ nearR ps arc) : ∃ p ∈ ps, (arc = p.1 ∧ z = p.2) ∨ (arc = p.2 ∧ z = p.1) := by
  obtain ⟨p, hp, e⟩ := List.mem_filterMap.1 h
  refine ⟨p, hp, ?_⟩
  split at e
  · injection e with e; rename_i q; exact .inl ⟨q, e.symm⟩
  · split at e
    · injection e with e; rename_i q; exact .inr ⟨q, e.symm⟩
    · cases e
theorem near_len (ps : List Pr) (arc : Int) : (nearR ps arc).length ≤ ps.length := List.length_filterMap_le _ _
/-- what placing reads -/
structure Pl (H : Hp) (q : Nat) (X F O : Option Addr) (kk c m d cO : Nat) (ps : List Pr) (pk : List Int) (os : List Nat) : Prop where
  fa : Facts H q X F kk c m d pk
  cl : Tab H 2 X kk (ps.map pc)
  od : Tab H 1 O m (os.map fun z : Nat => [iv (z : Int)])
  kkb : kk ≤ 1000000
  mb : m ≤ 10000
  om : ∀ a ∈ os, a < m
  pm : ∀ p ∈ ps, (0 ≤ p.1 ∧ p.1 < m) ∧ 0 ≤ p.2 ∧ p.2 < m
  pb : ∀ i, 0 ≤ pk.getD i 0 ∧ pk.getD i 0 ≤ 131328
theorem place2 {H : Hp} {q : Nat} {X F O : Option Addr} {kk c m d cO : Nat} {ps : List Pr} {pk : List Int} {os : List Nat} (x : Pl H q X F O kk c m d cO ps pk os) (gR gP : Addr) (l0 l3 : LE) (Q : Post) (e : Env)
    (he : [4, 6, 8, 10, 11].map e = [.p 1 0, .p 2 0, .v (.slice O m cO), .v (.slice (some gR) m m), .v (.slice (some gP) m m)])
    (hQ : ∀ e' h' regs plc, H.le h' → Run ps pk m os regs plc → [4, 10].map e' = [.p 0 0, .v (.slice (some gR) m m)] → Q .normal e' (Lr q m gR gP regs plc) h') :
    wpIR Tryz.prog 119 (.seq (.reg ir7_r14) (.block 2 (.loop ir7_l2))) Q e [l0, .own [.v (.slice none 0 0), .v (iv 0)] 30, .pub q, l3, .row 37 2 (some gR) m m ((List.replicate m ((0 : Int), (0 : Int))).map pc).flatten, .row 4 1 (some gP) m m ((List.replicate m false).map Value.bool)] H := by
  have hself := updL_self [4, 6, 8, 10, 11] e
  rw [he] at hself
  rw [← hself]
  have hol : os.length = m := by simpa using x.od.len
  have hkl : ps.length = kk := by simpa using x.cl.len
  have hpl : pk.length = m := by simpa using x.fa.tab.len
  have hm := x.mb
  have hkb := x.kkb
  conv => whnf
  refine .mkP [1, 2, 4, 5] (Nat × List Pr × List Bool) [4, 6, 10, 11, 53, 54, 55] (fun (k, _, _) => [.p 0 0, .p 1 0, .v (.slice (some gR) m m), .v (.slice (some gP) m m), .v (.slice O m cO), .v (iv m), .v (iv k)]) (fun (_, regs, plc) => Lr q m gR gP regs plc)
    (fun (k, regs, plc) h' => H.le h' ∧ k ≤ m ∧ Run ps pk m (os.take k) regs plc) (fun (k, _, _) => m - k) (0, List.replicate m (0, 0), List.replicate m false) (fun (_, _, _) => rfl) ⟨Hp.le_refl _, Nat.zero_le _, .nil⟩ rfl rfl rfl ?_
  rintro ⟨k, regs, plc⟩ e h' ⟨hle, hk, run⟩
  obtain ⟨hrl, hpll⟩ := run.lens
  show wpIR Tryz.prog 119 (.seq (.reg ir7_r15) (.seq (.cond (.t 56) .skip (.exit 2)) (.seq (.block 3 (.seq (.reg ir7_r16) (.seq (.reg ir7_r17) (.seq (.seq (.reg ir7_r18) (.block 4 (.loop ir7_l3))) (.seq (.reg ir7_r24) (.seq (.reg ir7_r25) (.seq (.seq (.reg ir7_r26) (.block 6 (.loop ir7_l4))) (.reg ir7_r32)))))))) (.reg ir7_r33)))) _ _ _ _
  generalize hc3 : IR.block 4 (.loop ir7_l3) = c3
  generalize hc4 : IR.seq (.reg ir7_r26) (.block 6 (.loop ir7_l4)) = c4
  conv => whnf
  refine br_dec (fun u => ?_) (fun u => ?_)
  · have hk' : k < os.length := by omega
    obtain ⟨g, hg⟩ := x.od.ad (by omega)
    obtain ⟨a, ha⟩ : ∃ a, a = os[k] := ⟨_, rfl⟩
    have ham : a < m := x.om a (by rw [ha]; exact List.getElem_mem hk')
    have hget : (os.map fun z : Nat => [iv (z : Int)])[k]? = some [iv (a : Int)] := by rw [List.getElem?_map, List.getElem?_eq_getElem hk', ha]; rfl
    have e1 : os.take (k + 1) = os.take k ++ [a] := by rw [List.take_add_one, List.getElem?_eq_getElem hk', ha]; rfl
    have hcell : ∀ hh, H.le hh → ∀ j v, [Value.slice X kk c, .slice F m d][j]? = some v → hh.cell? ⟨q, j, none⟩ = some v := fun hh hl j v hv => by
      unfold Hp.cell?
      simp only [hl _ _ x.fa.cell]
      simpa using hv
    have hnl := near_len ps (a : Int)
    conv => whnf
    refine .mk g hg (by omega) (by omega) ?_
    conv => whnf
    refine .hp (iv (a : Int)) (by rw [Int.toNat_natCast]; exact (x.od.mono hle).one hg hget rfl) ?_
    conv => whnf
    refine .hp [.slice X kk c, .slice F m d] rfl (fun j v hv => by rw [add_lit, Nat.zero_add]; exact hcell _ hle j v hv) ?_
    conv => whnf
    refine .done (.mk _ (near38 X F kk c m d ps a h' (x.cl.mono hle) hkb) ?_)
    rintro _ h2 ⟨l2, B, cB, rfl, tB⟩
    have l02 := Hp.le_trans hle l2
    conv => whnf
    subst hc3
    refine place3 hrl hpll tB (by omega) (fun z hz => ?_) O cO m k a _ _ [] rfl fun e2 h3 E ec l3 fE he2 => ?_
    · obtain ⟨p, hp, h | h⟩ := near_mem hz
      · have := x.pm p hp; omega
      · have := x.pm p hp; omega
    have hself := updL_self [4, 6, 10, 11, 13, 14, 53, 54, 55] e2
    rw [he2] at hself
    rw [← hself]
    have hbl : (busyR (nearR ps a) regs plc).length ≤ ps.length := Nat.le_trans (List.length_filterMap_le _ _) hnl
    conv => whnf
    refine .pub 4 37 2 E _ ec _ rfl fun h4 l4 ro4 f4 => .done (.mk _ (sort39 E _ ec _ h4 ro4 (by omega)) ?_)
    rintro _ h5 ⟨ys, rfl, srt, ro5, same⟩
    have hyl : ys.length = (busyR (nearR ps a) regs plc).length := srt.perm.length_eq
    have l05 : H.le h5 := fun j o hj => by
      rw [same j fun g hg e => ?_]
      · exact l4 _ _ (l3 _ _ (l02 _ _ hj))
      · have := Hp.none_le l02 (fE g hg)
        rw [← e, hj] at this
        cases this
    obtain ⟨s, hs⟩ : ∃ s, s = pk.getD a 0 := ⟨_, rfl⟩
    have hsb := x.pb a
    rw [← hs] at hsb
    have hpa : pk[a]? = some s := by rw [hs, List.getD_eq_getElem?_getD, List.getElem?_eq_getElem (by omega)]; rfl
    obtain ⟨gF, hgF⟩ := x.fa.tab.ad (by omega)
    conv => whnf
    refine .hp (.slice F m d) (hcell _ l05 1 _ rfl) ?_
    conv => whnf
    refine .mk gF hgF (by omega) (by omega) ?_
    conv => whnf
    refine .hp (iv s) (by rw [Int.toNat_natCast]; exact (x.fa.tab.mono l05).one hgF (r := [iv s]) (by rw [List.getElem?_map, hpa]; rfl) rfl) ?_
    conv => whnf
    subst hc4
    rw [← hyl] at ro5
    have hbd := run.bnd x.pb
    have hyb : ∀ y ∈ ys, 0 ≤ y.1 ∧ 0 ≤ y.2 ∧ y.1 + y.2 ≤ 100000000000 := fun y hy => by
      obtain ⟨z, _, hz, rfl⟩ := busy_mem ((srt.perm.mem_iff).1 hy)
      have hlt : z.toNat < regs.length := by
        rw [hrl]
        refine Decidable.byContradiction fun q => ?_
        rw [List.getD_eq_getElem?_getD, List.getElem?_eq_none (by omega)] at hz
        cases hz
      rw [List.getD_eq_getElem?_getD, List.getElem?_eq_getElem hlt]
      have h1 := hbd _ (List.getElem_mem hlt)
      have h2 : (os.take k).length ≤ 10000 := by simp; omega
      simp only [Option.getD_some]
      omega
    show wpIR Tryz.prog 119 (.seq (.reg ir7_r26) (.block 6 (.loop ir7_l4))) _ _ (Lr q m gR gP regs plc ++ [.gone, .own [.v (iv 0), .v (iv s)] 37]) _
    refine place4 ro5.tab2 (by omega) hsb.1 hsb.2 hyb O cO m k a _ _ (by rw [hyl]; rfl) fun e3 he3 => ?_
    have hself := updL_self [4, 6, 10, 11, 13, 17, 53, 54, 55] e3
    rw [he3] at hself
    rw [← hself]
    conv => whnf
    refine .mk gR rfl (by omega) (by omega) ?_
    conv => whnf
    refine .row 2 37 2 gR m m _ _ (a * 2) rfl (by rw [Int.toNat_natCast]) (over_pc regs a (foldB s ys) (by omega)) ?_
    conv => whnf
    refine .mk gP rfl (by omega) (by omega) ?_
    conv => whnf
    refine .row 3 4 1 gP m m _ _ a rfl (by rw [Int.toNat_natCast, Nat.mul_one]) (over_one _ _ _ (by simp; omega)) ?_
    conv => whnf
    refine .ok (by omega) (by omega) ?_
    conv => whnf
    refine ⟨(k + 1, regs.set a (foldB s ys), plc.set a true), rfl, ?_, ⟨l05, by omega, ?_⟩, by show m - (k + 1) < m - k; omega⟩
    · show _ = Lr q m gR gP (regs.set a (foldB s ys)) (plc.set a true)
      unfold Lr
      rw [show (plc.set a true).map Value.bool = (plc.map Value.bool).set a (.bool true) from by simp [List.map_set]]
      rfl
    · rw [e1, hs]
      exact .step a ys run srt
  · have : k = m := by omega
    subst this
    have e0 : os.take k = os := List.take_of_length_le (by omega)
    rw [e0] at run
    conv => whnf
    exact hQ _ _ _ _ hle run rfl
end Go.Sx
namespace Go.Sx
open Go.Proofs Go.Sort
set_option maxRecDepth 100000
/-- what the stable sort of the arcs' order leaves -/
def StabOk (m : Nat) (pk : List Int) (R : List Nat → Prop) : Prop := ∀ (h : Hp) (q : Nat) (X F : Option Addr) (kk c d : Nat), Facts h q X F kk c m d pk → ∀ (A : Option Addr) (cap : Nat), RowAt h 3 1 A m cap ((List.range m).map fun z : Nat => iv (z : Int)) → (∀ gA gF, A = some gA → F = some gF → 0 < m → gA.block ≠ gF.block) →
  Fn Tryz.prog 17 #[.slice A m cap, .func (.func 18) #[] #[.pointer (some ⟨q, 0, none⟩)]] h fun v h' => v = .tuple #[] ∧ ∃ os : List Nat, os.Perm (List.range m) ∧ R os ∧ RowAt h' 3 1 A m cap (os.map fun z : Nat => iv (z : Int)) ∧ ∀ j, (∀ g, A = some g → j ≠ g.block) → h' j = h j
theorem Tab.blk {h : Hp} {size n : Nat} {A : Option Addr} {rows : List (List Value)} (t : Tab h size A n rows) (hn : 0 < n) (hs : 0 < size) {g : Addr} (hg : A = some g) : h g.block ≠ none := by
  intro hz
  have hl := t.len
  have hr : rows[0]? = some rows[0] := List.getElem?_eq_getElem (by omega)
  have hw := t.wid _ (List.mem_of_getElem? hr)
  have hv : rows[0][0]? = some rows[0][0] := List.getElem?_eq_getElem (by omega)
  have := t.cell g hg 0 _ hr 0 _ hv
  have hadd : (g.add (0 * size + 0)).block = g.block := by unfold Addr.add; split <;> rfl
  unfold Hp.cell? at this
  rw [hadd, hz] at this
  cases this
def PlaceOk (h : Hp) (N : Int) (arcs : List Arc) (zs : List Int) (R : List Nat → Prop) (v : Value) (h' : Hp) : Prop :=
  h.le h' ∧ (lookE N arcs zs ≠ 0 → v = .tuple #[regV none 0 0 0, iv (lookE N arcs zs)]) ∧
    (lookE N arcs zs = 0 → ∃ os regs plc, os.Perm (List.range arcs.length) ∧ R os ∧ Run (pairsR (along N arcs zs).2 arcs.length) (maxes (along N arcs zs).2) arcs.length os regs plc ∧
      (1024 < totalR regs → v = .tuple #[regV none 0 0 0, iv 5]) ∧ (totalR regs ≤ 1024 → ∃ A, v = .tuple #[regV (some A) arcs.length arcs.length (totalR regs), iv 0] ∧ Tab h' 2 (some A) arcs.length (regs.map pc)))
def ordL (m k : Nat) : List Value := ((List.range k).map fun z : Nat => iv (z : Int)) ++ List.replicate (m - k) (iv 0)
theorem ordL_len {m k : Nat} (h : k ≤ m) : (ordL m k).length = m := by simp [ordL]; omega
theorem ordL_step {m k : Nat} (h : k < m) : (ordL m k).set k (iv (k : Int)) = ordL m (k + 1) := by
  unfold ordL
  rw [List.set_append_right _ _ (by simp), List.length_map, List.length_range, Nat.sub_self, List.range_succ, List.map_append, List.append_assoc]
  congr 1
  rw [show m - k = (m - (k + 1)) + 1 by omega, List.replicate_succ]
  rfl
theorem made_pc (m : Nat) : (madeCells (#[iv 0, iv 0] : Array Value) (m * 2)).toList = ((List.replicate m ((0 : Int), (0 : Int))).map pc).flatten := by
  have h1 : ∀ k, ((List.replicate k ((0 : Int), (0 : Int))).map pc).flatten = List.replicate (k * 2) (iv 0) := fun k => by
    induction k with
    | zero => rfl
    | succ k ih =>
      rw [List.replicate_succ, List.map_cons, List.flatten_cons, ih, show (k + 1) * 2 = k * 2 + 1 + 1 by omega, List.replicate_succ, List.replicate_succ]
      rfl
  rw [h1]
  apply List.ext_getElem?
  intro j
  unfold madeCells
  rw [Array.getElem?_toList, Array.getElem?_map, Array.getElem?_range, List.getElem?_replicate]
  by_cases hj : j < m * 2
  · rw [if_pos hj, if_pos hj]
    have : j % 2 = 0 ∨ j % 2 = 1 := by omega
    rcases this with e | e <;> simp [e]
  · rw [if_neg hj, if_neg hj]; rfl
theorem place17 (N : Int) (n cap : Nat) (arcs : List Arc) (A D : Option Addr) (r cap2 : Nat) (zs : List Int) (h : Hp) (ht : Tab h 5 A n (arcs.map Arc.cells)) (hn : n * 40 ≤ 140737488355328) (hz : Tab h 1 D r (zs.map fun z => [iv z])) (R : List Nat → Prop)
    (hst : lookE N arcs zs = 0 → StabOk arcs.length (maxes (along N arcs zs).2) R) :
    Fn Tryz.prog 7 #[netV N A n cap, .slice D r cap2] h fun v h' => PlaceOk h N arcs zs R v h' := by
  refine Fn.intro (args := [netV N A n cap, .slice D r cap2]) mix14 Tryz.func7 rfl (by decide) Tryz.ntmps7 rfl (low7 rfl) rfl ?_
  conv => whnf
  refine .done (.mk _ (look35 N n cap arcs A D r cap2 zs h ht hn hz) ?_)
  rintro v h1 ⟨l1, hb, hg⟩
  by_cases he : lookE N arcs zs = 0
  · have hst := hst he
    obtain ⟨E, c, F, d, rfl, tE, tF⟩ := hg he
    have hal : (along N arcs zs).1 = 0 := by
      refine Decidable.byContradiction fun q => ?_
      unfold lookE at he
      rw [if_pos q] at he
      exact q he
    have hchk := along_chk hal
    have hm := (chk_zero hchk).2.2.1
    obtain ⟨pks, pkb⟩ := look_peaks hal
    generalize hc1 : IR.block 0 (.loop ir7_l1) = c1
    generalize hc2 : IR.seq (.reg ir7_r14) (.block 2 (.loop ir7_l2)) = c2
    conv => whnf
    refine EvMake.one arcs.length (iv 0) rfl rfl rfl rfl (by omega) (by omega) fun g => ?_
    conv => whnf
    subst hc1
    have hpl : (pairsR (along N arcs zs).2 arcs.length).length ≤ 9216 := Nat.le_trans (all_pairs arcs.length _ ((pairs_sorted _ _).imp fun {a b} h e => by rw [e] at h; exact pl_irr _ h) fun p hp => by
      obtain ⟨i, j, e, a, b, _⟩ := pairs_mem.1 hp
      exact ⟨i, j, e, by omega, b⟩) (Nat.mul_le_mul hm hm)
    conv => whnf
    refine .mk Nat [4, 6, 8, 35, 36] (fun k => [.p 1 0, .p 2 0, .v (.slice (some g) arcs.length arcs.length), .v (iv arcs.length), .v (iv k)])
      (fun k => [.own [.v (iv N), .v (.slice A n cap)] 24, .own [.v (.slice none 0 0), .v (iv 0)] 30, .own [.v (.slice E (pairsR (along N arcs zs).2 arcs.length).length c), .v (.slice F arcs.length d)] 50, .row 3 1 (some g) arcs.length arcs.length (ordL arcs.length k)])
      (fun k h' => h' = h1 ∧ k ≤ arcs.length) (fun k => arcs.length - k) 0 (fun _ => rfl) ⟨rfl, Nat.zero_le _⟩ rfl rfl ?_
    rintro k e h' ⟨rfl, hk⟩
    conv => whnf
    refine br_dec (fun u => ?_) (fun u => ?_)
    · have hk' : k < arcs.length := by omega
      conv => whnf
      refine .mk g rfl (by omega) (by omega) ?_
      conv => whnf
      refine .row 3 3 1 g arcs.length arcs.length _ _ k rfl (by rw [Int.toNat_natCast, Nat.mul_one]) (over_one _ _ _ (by rw [ordL_len (by omega)]; exact hk')) ?_
      conv => whnf
      refine .ok (by omega) (by omega) ?_
      conv => whnf
      refine ⟨k + 1, rfl, ?_, ⟨rfl, hk'⟩, by omega⟩
      rw [← ordL_step hk']
      rfl
    · have hkm : k = arcs.length := by omega
      subst hkm
      have ho : ordL arcs.length arcs.length = (List.range arcs.length).map fun z : Nat => iv (z : Int) := by simp [ordL]
      rw [ho]
      conv => whnf
      refine .mk fun q hq => ?_
      conv => whnf
      refine .pub 3 3 1 (some g) arcs.length arcs.length _ rfl fun h3 l3 ro3 f3 => .done (.mk _ (hst h3 q E F _ c d ⟨l3 _ _ (Hp.put_same _ _ _), tF.mono (Hp.le_trans (Hp.le_put hq) l3)⟩ (some g) _ ro3 (fun gA gF e1 e2 h0 e3 => by
        injection e1 with e1
        subst e1
        have hfr := f3 g rfl
        by_cases hgq : g.block = q
        · rw [hgq, Hp.put_same] at hfr; cases hfr
        · rw [Hp.put_ne _ _ hgq] at hfr
          exact tF.blk h0 (by decide) e2 (by rw [← e3]; exact hfr))) ?_)
      rintro _ h4 ⟨rfl, os, hperm, hR, ro4, same⟩
      have gq : g.block ≠ q := fun e => by
        have := f3 g rfl
        rw [e, Hp.put_same] at this
        cases this
      have l14 : h'.le h4 := fun j o hj => by
        rw [same j fun g2 hg2 e => ?_]
        · exact l3 _ _ (Hp.le_put hq _ _ hj)
        · injection hg2 with hg2
          subst hg2
          have := f3 g rfl
          rw [Hp.put_ne _ _ gq, ← e, hj] at this
          cases this
      have hq4 : h4 q = some (.cells [.slice E (pairsR (along N arcs zs).2 arcs.length).length c, .slice F arcs.length d].toArray 50 (0, 0)) := by
        rw [same q fun g2 hg2 e => by injection hg2 with hg2; subst hg2; exact gq e.symm]
        exact l3 _ _ (Hp.put_same _ _ _)
      conv => whnf
      refine EvMake.mk arcs.length rfl rfl (by omega) (by omega) fun gR => ?_
      show putS 119 _ _ _ (setn _ 3 LE.gone ++ [LE.row 37 2 (some gR) _ _ (madeCells (#[iv 0, iv 0] : Array Value) (arcs.length * 2)).toList]) _ _
      rw [made_pc]
      conv => whnf
      refine EvMake.one arcs.length (.bool false) rfl rfl rfl rfl (by omega) (by omega) fun gP => ?_
      rw [show List.replicate arcs.length (Value.bool false) = (List.replicate arcs.length false).map Value.bool from by simp]
      conv => whnf
      subst hc2
      have P : Pl h4 q E F (some g) (pairsR (along N arcs zs).2 arcs.length).length c arcs.length d arcs.length (pairsR (along N arcs zs).2 arcs.length) (maxes (along N arcs zs).2) os := by
        refine ⟨⟨hq4, tF.mono l14⟩, tE.mono l14, ?_, by omega, by omega, fun a ha => List.mem_range.1 ((hperm.mem_iff).1 ha), fun p hp => ?_, fun i => ?_⟩
        · have := RowAt.one (l := os.map fun z : Nat => (z : Int)) (by rw [List.map_map]; exact ro4)
          rw [List.map_map] at this
          exact this
        · obtain ⟨i, j, rfl, a, b, _⟩ := pairs_mem.1 hp
          exact ⟨⟨by show (0 : Int) ≤ (i : Int); omega, by show (i : Int) < _; omega⟩, by show (0 : Int) ≤ (j : Int); omega, by show (j : Int) < _; omega⟩
        · by_cases hi : i < arcs.length
          · exact pkb i hi
          · rw [List.getD_eq_getElem?_getD, List.getElem?_eq_none (by rw [pks.len]; omega)]
            exact ⟨by decide, by decide⟩
      refine place2 P gR gP _ _ _ _ rfl fun e2 h5 regs plc l5 run he2 => ?_
      have hself := updL_self [4, 10] e2
      rw [he2] at hself
      rw [← hself]
      have hrb := run.bnd P.pb
      have hol : os.length ≤ 96 := by rw [hperm.length_eq, List.length_range]; exact hm
      have hSm : ∀ x ∈ regs, Sm x := fun x hx => by
        have := hrb x hx
        exact ⟨by omega, by omega, by omega, by omega⟩
      conv => whnf
      refine .pub 2 37 2 (some gR) _ _ _ rfl fun h6 l6 ro6 f6 => .done (.mk _ (total42 (some gR) _ _ regs h6 ro6.tab2 hSm (by omega)) ?_)
      rintro _ _ ⟨rfl, rfl⟩
      have l06 := Hp.le_trans l1 (Hp.le_trans l14 (Hp.le_trans l5 l6))
      conv => whnf
      refine br_dec (fun w => ?_) (fun w => ?_)
      · conv => whnf
        exact .done ⟨l06, fun q => absurd he q, fun _ => ⟨os, regs, plc, hperm, hR, run, fun _ => rfl, fun q => absurd w (by omega)⟩⟩
      · conv => whnf
        refine .done (.mk _ (total42 (some gR) _ _ regs _ ro6.tab2 hSm (by omega)) ?_)
        rintro _ _ ⟨rfl, rfl⟩
        conv => whnf
        exact .done ⟨l06, fun q => absurd he q, fun _ => ⟨os, regs, plc, hperm, hR, run, fun q => absurd q w, fun _ => ⟨gR, rfl, ro6.tab2⟩⟩⟩
  · obtain rfl := hb he
    conv => whnf
    refine br_dec (fun _ => ?_) (fun q => absurd he q)
    conv => whnf
    refine .done ⟨l1, fun _ => rfl, fun q => absurd q he⟩
end Go.Sx
