/- The document's Compress. Conditions: none. -/
import Derived.Test.YtndkgmgkbedepaaM17N
namespace Go.Sx
open Go.Proofs
set_option maxRecDepth 100000
set_option maxHeartbeats 1000000
structure Dst (h2 : Hp) (R : List El) (h' : Hp) (A : Option Addr) (m c : Nat) (l : Lo) (w k : Nat) : Prop where
  sat : SAt h' A m l
  ca : m ≤ c
  cnt : l.cnt ≤ 2048
  w1 : 1 ≤ w
  w2 : w ≤ 17
  fu : 20 * l.fo.els.length + 17 < k + w
  eq : cmpF k w l.fo.els = R
  le : h2.le h'
theorem compress19 (l : List Int) (D : Option Addr) (n cap : Nat) (h : Hp) (hz : Tab h 1 D n (l.map fun z => [iv z])) :
    Fn Try.prog 19 #[.slice D n cap] h fun v h' => h.le h' ∧ ∃ A' m' c' l', v = .tuple #[.slice A' m' c', iv (compR l).1] ∧ SAt h' A' m' l' ∧ l'.fo.els = (compR l).2 := by
  have hl : l.length = n := by simpa using hz.len
  refine Fn.intro (args := [.slice D n cap]) mix16 Try.func19 rfl (by decide) Try.ntmps19 rfl (low19 rfl) rfl ?_
  conv => whnf
  refine br_dec (fun u => ?_) (fun u => ?_)
  · conv => whnf
    have hR : compR l = (2, []) := by unfold compR; rw [if_pos (by omega)]
    refine .done ⟨Hp.le_refl h, none, 0, 0, .nil, ?_, ⟨rfl, .inl rfl⟩, ?_⟩
    · rw [hR]; rfl
    · rw [hR]; rfl
  have hn : n ≤ 2048 := by omega
  have bad : (∃ x ∈ l, badN x) → compR l = (100, []) := fun q => by
    unfold compR; rw [if_neg (by omega), if_pos q]
  conv => whnf
  refine .mk Nat [0, 4] (fun i => [.v (.slice D n cap), .v (iv i)]) (fun _ => []) (fun i h' => h' = h ∧ i ≤ n ∧ ∀ x ∈ l.take i, ¬ badN x) (fun i => n - i) 0 (fun _ => rfl) ⟨rfl, Nat.zero_le _, fun x hx => by simp at hx⟩ rfl rfl ?_
  rintro i e h' ⟨rfl, hi, hok⟩
  conv => whnf
  refine br_dec (fun u1 => ?_) (fun u1 => ?_)
  · have hil : i < l.length := by omega
    obtain ⟨g, hg⟩ := hz.ad (by omega)
    obtain ⟨x, hx⟩ : ∃ x, x = l[i] := ⟨_, rfl⟩
    have hget : (l.map fun z => [iv z])[i]? = some [iv x] := by rw [List.getElem?_map, List.getElem?_eq_getElem hil, hx]; rfl
    have hxl : x ∈ l := by rw [hx]; exact List.getElem_mem _
    conv => whnf
    refine .mk g hg (by omega) (by omega) ?_
    conv => whnf
    refine .hp (iv x) (by rw [Int.toNat_natCast]; exact hz.one hg hget rfl) ?_
    conv => whnf
    refine br_dec (fun u2 => ?_) (fun u2 => ?_)
    · conv => whnf
      refine .done ⟨Hp.le_refl _, none, 0, 0, .nil, ?_, ⟨rfl, .inl rfl⟩, ?_⟩
      · rw [bad ⟨x, hxl, .inl u2⟩]; rfl
      · rw [bad ⟨x, hxl, .inl u2⟩]; rfl
    conv => whnf
    refine .mk g hg (by omega) (by omega) ?_
    conv => whnf
    refine .hp (iv x) (by rw [Int.toNat_natCast]; exact hz.one hg hget rfl) ?_
    conv => whnf
    refine br_dec (fun u3 => ?_) (fun u3 => ?_)
    · conv => whnf
      refine .done ⟨Hp.le_refl _, none, 0, 0, .nil, ?_, ⟨rfl, .inl rfl⟩, ?_⟩
      · rw [bad ⟨x, hxl, .inr u3⟩]; rfl
      · rw [bad ⟨x, hxl, .inr u3⟩]; rfl
    conv => whnf
    refine .ok (by omega) (by omega) ?_
    conv => whnf
    refine ⟨i + 1, rfl, rfl, ⟨rfl, by omega, fun q hq => ?_⟩, by omega⟩
    rw [take_succ' hil] at hq
    rcases List.mem_append.1 hq with hq | hq
    · exact hok q hq
    · rw [List.mem_singleton.1 hq, ← hx]; intro q; rcases q with q | q
      · exact u2 q
      · exact u3 q
  · have hin : i = l.length := by omega
    rw [hin, List.take_length] at hok
    have hR : compR l = (0, comp (lfE (runsR l))) := by
      unfold compR
      rw [if_neg (by omega), if_neg]
      rintro ⟨x, hx, hb⟩
      exact hok x hx hb
    conv => whnf
    refine .done (.mk _ (runs30 D n cap l h' hz (by omega)) ?_)
    rintro _ h1 ⟨E1, m1, c1, rfl, hm1, rw1⟩
    have hrl := runsR_len l
    have tr := rw1.tab
    conv => whnf
    refine .mkS [] (Nat × Option Addr × Nat) [5, 6, 7] (fun (i, E, ec) => [.v (.slice E1 m1 c1), .v (.slice E i ec), .v (iv i)]) (fun _ => [])
      (fun (i, E, ec) h' => h1.le h' ∧ i ≤ m1 ∧ RowAt h' 41 3 E i ec (lfL ((runsR l).take i)).cl.flatten ∧ (∀ g, E = some g → h1 g.block = none)) (fun (i, _, _) => m1 - i) (0, none, 0) (fun _ => rfl)
      ⟨Hp.le_refl _, Nat.zero_le _, ⟨rfl, .inl ⟨rfl, rfl, rfl⟩⟩, (fun _ e => by cases e)⟩ rfl rfl rfl ?_
    rintro ⟨i, E, ec⟩ e h2 ⟨hle, him, hrow, hf⟩
    have hX := delA_none hle hf
    refine .abs 41 3 E i ec _ hrow (.done ?_)
    conv => whnf
    refine br_dec (fun u1 => ?_) (fun u1 => ?_)
    · have hi : i < (runsR l).length := by omega
      obtain ⟨r, hr⟩ : ∃ r, r = (runsR l)[i] := ⟨_, rfl⟩
      have hget : ((runsR l).map rcell)[i]? = some (rcell r) := by rw [List.getElem?_map, List.getElem?_eq_getElem hi, hr]; rfl
      have trX := tr.mono hX
      obtain ⟨g, hg⟩ := trX.ad (by omega)
      conv => whnf
      refine .mk g hg (by omega) (by omega) ?_
      conv => whnf
      refine .hp (iv r.2) (by rw [Int.toNat_natCast]; exact trX.row hg hget 1 _ rfl) ?_
      conv => whnf
      refine .mk g hg (by omega) (by omega) ?_
      conv => whnf
      refine .hp (iv r.1) (by rw [Int.toNat_natCast]; exact trX.row hg hget 0 _ rfl) ?_
      conv => whnf
      refine .old 0 _ (lcells (r.2 : Int) r.1 none 0 0) rfl rfl (lcells_one _ _ _ _ _) (by simp [maxLen]; omega) (by omega) fun E2 ec2 hE2 => ?_
      conv => whnf
      refine .ok (by omega) (by omega) ?_
      conv => whnf
      have htk : (runsR l).take (i + 1) = (runsR l).take i ++ [r] := by rw [take_succ' hi, hr]
      refine .pub 0 41 3 E2 (i + 1) ec2 _ rfl fun h4 l4 ro4 f4 => .done ⟨(i + 1, E2, ec2), rfl, rfl, ⟨Hp.le_trans hX l4, by omega, ?_, fun g e => Hp.none_le hX (f4 g e)⟩, by show m1 - (i + 1) < m1 - i; omega⟩
      rw [htk, lfL_snoc, List.flatten_append, List.flatten_singleton]; exact ro4
    · have him' : i = (runsR l).length := by omega
      rw [him', List.take_length] at hrow
      obtain ⟨R, hRR⟩ : ∃ R, R = comp (lfE (runsR l)) := ⟨_, rfl⟩
      have hels := lfL_els (runsR l)
      have hlen : (lfL (runsR l)).fo.els.length ≤ 2048 := by rw [hels]; simp [lfE]; omega
      have hcmp : cmpF (20 * (lfL (runsR l)).fo.els.length + 20) 1 (lfL (runsR l)).fo.els = R := by rw [hRR, hels]; rfl
      rw [← hRR] at hR
      have hcn : (lfL (runsR l)).cnt ≤ 2048 := by rw [lfL_cnt]; omega
      conv => whnf
      refine .shf (.pub 0 41 3 E i ec _ rfl fun h3 l3 ro3 f3 => .done ?_)
      rw [him', List.take_length] at ro3
      have hs3 : SAt h3 E i (lfL (runsR l)) := by
        have := Tab.sat (l := lfL (runsR l)) (A := E) (n := i) (by rw [him']; exact RowAt.tab ro3 (lfL (runsR l)).cl_wid (by decide)) (lfL_bdw h3 _)
        exact this
      have hic : i ≤ ec := by rw [him']; exact row_capn ro3
      refine .mk (Option Addr × Nat × Nat × Lo × Nat × Nat) [6, 8] (fun (A, m, c, _, w, _) => [.v (.slice A m c), .v (iv w)]) (fun _ => [])
        (fun (A, m, c, lo, w, k) h' => Dst h1 R h' A m c lo w k) (fun (_, _, _, _, _, k) => k) (E, i, ec, lfL (runsR l), 1, 20 * (lfL (runsR l)).fo.els.length + 20) (fun _ => rfl)
        ⟨hs3, hic, hcn, Nat.le_refl _, by decide, by omega, hcmp, Hp.le_trans hX l3⟩ rfl rfl ?_
      rintro ⟨A, m, c, lo, w, k⟩ e h5 S
      have hml : lo.fo.els.length = m := by rw [fo_els_len]; exact S.sat.1.symm
      have hmc : m ≤ 2048 := by have := S.cnt; have := lo.len_cnt; have := S.sat.1; omega
      have w1 := S.w1
      have w2 := S.w2
      have l0 : h'.le h5 := Hp.le_trans rw1.le S.le
      conv => whnf
      refine br_dec (fun v1 => ?_) (fun v1 => ?_)
      · conv => whnf
        refine .ok (by omega) (by omega) ?_
        conv => whnf
        refine br_dec (fun v2 => ?_) (fun v2 => ?_)
        · obtain ⟨k', rfl, a1, a2⟩ := Cstep w1 S.fu S.eq ⟨by omega, by omega⟩
          conv => whnf
          refine .done (.mk _ (pass37 S.sat S.ca (by have := S.cnt; omega) w1 (by omega)) ?_)
          rintro _ h6 ⟨E5, j5, ec5, p5, rfl, l6, s6, hp6, hc6⟩
          have hp5 : p5.fo.els.length = j5 := by rw [fo_els_len]; exact s6.1.symm
          have hcn5 : p5.cnt ≤ 2048 := Nat.le_trans (pass_lo w1 hp6) S.cnt
          have hj5 : (pass w lo.fo.els).length = j5 := by rw [← hp6, hp5]
          conv => whnf
          refine br_dec (fun v3 => ?_) (fun v3 => ?_)
          · obtain ⟨b1, b2⟩ := a1 (by omega)
            conv => whnf
            exact ⟨(E5, j5, ec5, p5, 1, k'), rfl, rfl, ⟨s6, hc6, hcn5, Nat.le_refl _, by decide, by rw [hp6]; exact b2, by rw [hp6]; exact b1, Hp.le_trans S.le l6⟩, Nat.lt_succ_self _⟩
          · obtain ⟨b1, b2⟩ := a2 (by omega)
            conv => whnf
            refine .ok (by omega) (by omega) ?_
            conv => whnf
            exact ⟨(E5, j5, ec5, p5, w + 1, k'), rfl, rfl, ⟨s6, hc6, hcn5, by omega, by omega, by rw [hp6]; exact b2, by rw [hp6]; exact b1, Hp.le_trans S.le l6⟩, Nat.lt_succ_self _⟩
        · have hend := Cend S.eq (by omega)
          conv => whnf
          refine .done ⟨l0, A, m, c, lo, ?_, S.sat, ?_⟩
          · rw [hR]; rfl
          · rw [hR, hend]
      · have hend := Cend S.eq (by omega)
        conv => whnf
        refine .done ⟨l0, A, m, c, lo, ?_, S.sat, ?_⟩
        · rw [hR]; rfl
        · rw [hR, hend]
end Go.Sx
namespace Go.Sx
open Go.Proofs
set_option maxRecDepth 100000
theorem leaf22 (n t : Int) (h : Hp) : Fn Try.prog 22 #[iv n, iv t] h fun v h' => v = .agg (lcells t n none 0 0).toArray ∧ h' = h := by
  refine Fn.intro (args := [iv n, iv t]) mix16 Try.func22 rfl (by decide) Try.ntmps22 rfl (low22 rfl) rfl ?_
  conv => whnf
  exact .done ⟨rfl, rfl⟩
theorem block21 (t : Int) (B : Option Addr) (m c : Nat) (h : Hp) : Fn Try.prog 21 #[iv t, .slice B m c] h fun v h' => v = .agg (lcells t 0 B m c).toArray ∧ h' = h := by
  refine Fn.intro (args := [iv t, .slice B m c]) mix16 Try.func21 rfl (by decide) Try.ntmps21 rfl (low21 rfl) rfl ?_
  conv => whnf
  exact .done ⟨rfl, rfl⟩
/-- a list of loops that lies in a block -/
theorem sat_lit {h : Hp} {b : Nat} (p : Lo) (hb : h b = some (.cells p.cl.flatten.toArray 41 (0, 0))) (hk : Bdw SK h p) : SAt h (some ⟨b, 0, none⟩) p.len p :=
  Tab.sat (Tab.lit (rows := p.cl) hb rfl p.cl_wid p.cl_len) hk
def lf1 (n t : Int) (r : Lo) : Lo := .cons t n none 0 0 .nil r
theorem bdw_lf {h : Hp} {n t : Int} {r : Lo} (x : Bdw SK h r) : Bdw SK h (lf1 n t r) := ⟨⟨rfl, .inl rfl⟩, x⟩
theorem bdw_nil (h : Hp) : Bdw SK h .nil := trivial
theorem ex_fold : foldR 2 (lf1 0 1 (lf1 1 1 (lf1 0 1 (lf1 1 1 (lf1 0 1 .nil))))).fo = (0, .cons 2 0 (.cons 1 0 .nil (.cons 1 1 .nil .nil)) (.cons 1 0 .nil .nil)) := by decide +kernel
theorem ex_comp : compR [0, 1, 0, 1, 2, 0, 1, 0, 1, 2] = (0, [(2, 0, .cons 2 0 (.cons 1 0 .nil (.cons 1 1 .nil .nil)) (.cons 1 2 .nil .nil))]) := by decide +kernel
theorem ex_bad : (foldR 0 (lf1 0 1 .nil).fo).1 = 1 ∧ (compR [32]).1 = 100 := by decide +kernel
theorem awake15 (h : Hp) : Fn Try.prog 15 #[] h fun v h' => v = .bool true ∧ h.le h' := by
  obtain ⟨x1, x2⟩ := ex_bad
  refine Fn.intro (args := []) mix16 Try.func15 rfl (by decide) Try.ntmps15 rfl (low15 rfl) rfl ?_
  conv => whnf
  refine .done (.mk _ (leaf22 0 1 h) ?_)
  rintro _ _ ⟨rfl, rfl⟩
  conv => whnf
  refine .done (.mk _ (leaf22 1 1 _) ?_)
  rintro _ _ ⟨rfl, rfl⟩
  conv => whnf
  refine .done (.mk _ (leaf22 0 1 _) ?_)
  rintro _ _ ⟨rfl, rfl⟩
  conv => whnf
  refine .done (.mk _ (leaf22 1 1 _) ?_)
  rintro _ _ ⟨rfl, rfl⟩
  conv => whnf
  refine .done (.mk _ (leaf22 0 1 _) ?_)
  rintro _ h ⟨rfl, rfl⟩
  conv => whnf
  refine .mk fun b1 hb1 => ?_
  conv => whnf
  have l1 := Hp.le_put (o := .cells (lf1 0 1 (lf1 1 1 (lf1 0 1 (lf1 1 1 (lf1 0 1 .nil))))).cl.flatten.toArray 41 (0, 0)) hb1
  refine .done (.mk _ (fold11 2 (lf1 0 1 (lf1 1 1 (lf1 0 1 (lf1 1 1 (lf1 0 1 .nil))))) (by decide) (some ⟨b1, 0, none⟩) 5 5 _ (sat_lit _ (Hp.put_same _ _ _) (bdw_lf (bdw_lf (bdw_lf (bdw_lf (bdw_lf (bdw_nil _))))))) (by decide)) ?_)
  rintro _ h2 ⟨l2, A2, m2, c2, p2, rfl, uw2, f2⟩
  rw [ex_fold] at f2 ⊢
  have s2 := uw2.sat.mono (Hp.sub_le _ _)
  have l12 := Hp.le_trans l1 l2
  conv => whnf
  refine .mk fun b3 hb3 => ?_
  conv => whnf
  have l3 := Hp.le_put (o := .cells (([0, 1, 0, 1, 2, 0, 1, 0, 1, 2] : List Int).map iv).toArray 3 (0, 0)) hb3
  refine .done (.mk _ (compress18 [0, 1, 0, 1, 2, 0, 1, 0, 1, 2] (some ⟨b3, 0, none⟩) 10 10 _ (Tab.lit (Hp.put_same _ _ _) (flat_nums [0, 1, 0, 1, 2, 0, 1, 0, 1, 2]) (ints_wid _) rfl)) ?_)
  rintro _ h4 ⟨l4, A4, m4, c4, p4, rfl, uw4, f4⟩
  rw [ex_comp] at f4 ⊢
  have s4 := uw4.sat.mono (Hp.sub_le _ _)
  have l34 := Hp.le_trans l3 l4
  conv => whnf
  refine .done (.mk _ (leaf22 0 1 _) ?_)
  rintro _ h4 ⟨rfl, rfl⟩
  conv => whnf
  refine .mk fun b5 hb5 => ?_
  conv => whnf
  have l5 := Hp.le_put (o := .cells (lf1 0 1 .nil).cl.flatten.toArray 41 (0, 0)) hb5
  refine .done (.mk _ (fold11 0 (lf1 0 1 .nil) (by decide) (some ⟨b5, 0, none⟩) 1 1 _ (sat_lit _ (Hp.put_same _ _ _) (bdw_lf (bdw_nil _))) (by decide)) ?_)
  rintro _ h6 ⟨l6, A6, m6, c6, p6, rfl, _, _⟩
  rw [x1]
  have l56 := Hp.le_trans l5 l6
  conv => whnf
  refine .mk fun b7 hb7 => ?_
  conv => whnf
  have l7 := Hp.le_put (o := .cells (([32] : List Int).map iv).toArray 3 (0, 0)) hb7
  refine .done (.mk _ (compress18 [32] (some ⟨b7, 0, none⟩) 1 1 _ (Tab.lit (Hp.put_same _ _ _) (flat_nums [32]) (ints_wid _) rfl)) ?_)
  rintro _ h8 ⟨l8, A8, m8, c8, p8, rfl, _, _⟩
  rw [x2]
  have l78 := Hp.le_trans l7 l8
  conv => whnf
  refine .done (.mk _ (leaf22 0 1 _) ?_)
  rintro _ _ ⟨rfl, rfl⟩
  conv => whnf
  refine .done (.mk _ (leaf22 1 1 _) ?_)
  rintro _ h8 ⟨rfl, rfl⟩
  conv => whnf
  refine .mk fun b9 hb9 => ?_
  conv => whnf
  have l9 := Hp.le_put (o := .cells (lf1 0 1 (lf1 1 1 .nil)).cl.flatten.toArray 41 (0, 0)) hb9
  have s9 : SAt (h8.put b9 (.cells (lf1 0 1 (lf1 1 1 .nil)).cl.flatten.toArray 41 (0, 0))) (some ⟨b9, 0, none⟩) 2 (lf1 0 1 (lf1 1 1 .nil)) := sat_lit _ (Hp.put_same _ _ _) (bdw_lf (bdw_lf (bdw_nil _)))
  refine .done (.mk _ (block21 2 (some ⟨b9, 0, none⟩) 2 2 _) ?_)
  rintro _ h9 ⟨rfl, rfl⟩
  conv => whnf
  refine .mk _ (leaf22 0 1 _) (fun v h' ⟨_, e⟩ => by rw [e]; exact Hp.le_refl _) ?_
  rintro _ h9 ⟨rfl, rfl⟩
  conv => whnf
  refine .mk fun b10 hb10 => ?_
  conv => whnf
  have l10 := Hp.le_put (o := .cells (Lo.cons 2 0 (some ⟨b9, 0, none⟩) 2 2 (lf1 0 1 (lf1 1 1 .nil)) (lf1 0 1 .nil)).cl.flatten.toArray 41 (0, 0)) hb10
  have s10 := sat_lit (Lo.cons 2 0 (some ⟨b9, 0, none⟩) 2 2 (lf1 0 1 (lf1 1 1 .nil)) (lf1 0 1 .nil)) (h := Hp.put _ b10 _) (Hp.put_same _ _ _) ⟨s9.mono l10, bdw_lf (bdw_nil _)⟩
  have l29 := Hp.le_trans l34 (Hp.le_trans l56 (Hp.le_trans l78 (Hp.le_trans l9 l10)))
  have hc2 : p2.cnt ≤ 200000 := by rw [← p2.fo_cnt, f2]; decide
  have hc4 : p4.cnt ≤ 200000 := by rw [lo_cnt, f4]; decide
  refine .done (.mk _ (sameLoops13 _ p2 (Nat.lt_succ_self _) hc2 _ A2 (some ⟨b10, 0, none⟩) m2 2 c2 2 _ (s2.mono l29) s10) ?_)
  rintro _ h11 ⟨rfl, rfl⟩
  rw [decide_eq_true (by rw [f2]; rfl)]
  conv => whnf
  refine .mk _ (leaf22 2 1 _) (fun v h' ⟨_, e⟩ => by rw [e]; exact Hp.le_refl _) ?_
  rintro _ h12 ⟨rfl, rfl⟩
  conv => whnf
  refine .mk fun b11 hb11 => ?_
  conv => whnf
  have l11 := Hp.le_put (o := .cells (Lo.cons 2 0 (some ⟨b9, 0, none⟩) 2 2 (lf1 0 1 (lf1 1 1 .nil)) (lf1 2 1 .nil)).cl.flatten.toArray 41 (0, 0)) hb11
  have s11 := sat_lit (Lo.cons 2 0 (some ⟨b9, 0, none⟩) 2 2 (lf1 0 1 (lf1 1 1 .nil)) (lf1 2 1 .nil)) (h := Hp.put _ b11 _) (Hp.put_same _ _ _) ⟨s9.mono (Hp.le_trans l10 l11), bdw_lf (bdw_nil _)⟩
  refine .done (.mk _ (block21 2 (some ⟨b11, 0, none⟩) 2 2 _) ?_)
  rintro _ h13 ⟨rfl, rfl⟩
  conv => whnf
  refine .mk fun b12 hb12 => ?_
  conv => whnf
  have l12' := Hp.le_put (o := .cells (Lo.cons 2 0 (some ⟨b11, 0, none⟩) 2 2 (Lo.cons 2 0 (some ⟨b9, 0, none⟩) 2 2 (lf1 0 1 (lf1 1 1 .nil)) (lf1 2 1 .nil)) .nil).cl.flatten.toArray 41 (0, 0)) hb12
  have s12 := sat_lit (Lo.cons 2 0 (some ⟨b11, 0, none⟩) 2 2 (Lo.cons 2 0 (some ⟨b9, 0, none⟩) 2 2 (lf1 0 1 (lf1 1 1 .nil)) (lf1 2 1 .nil)) .nil) (h := Hp.put _ b12 _) (Hp.put_same _ _ _) ⟨s11.mono l12', bdw_nil _⟩
  have l49 := Hp.le_trans l56 (Hp.le_trans l78 (Hp.le_trans l9 (Hp.le_trans l10 (Hp.le_trans l11 l12'))))
  refine .done (.mk _ (sameLoops13 _ p4 (Nat.lt_succ_self _) hc4 _ A4 (some ⟨b12, 0, none⟩) m4 1 c4 1 _ (s4.mono l49) s12) ?_)
  rintro _ h14 ⟨rfl, rfl⟩
  rw [decide_eq_true (els_inj (by rw [f4]; rfl))]
  conv => whnf
  exact .done ⟨rfl, Hp.le_trans l12 (Hp.le_trans l34 l49)⟩
end Go.Sx
namespace Go.Sx
open Go.Proofs
theorem sat_nil (h : Hp) : SAt h none 0 .nil := ⟨rfl, .inl rfl⟩
theorem UB.le {l : Lo} : ∀ {X : Hp}, UB X l → ∀ s ∈ bods l, s.2.1 ≤ l.cnt := by
  induction l with
  | nil => intro X _ s hs; cases hs
  | cons t n B m c b r ihb ihr =>
    rintro X ⟨X1, X2, a1, a2, _, ⟨hm, hb⟩, hr⟩ s hs
    have hbl := b.len_cnt
    simp only [bods] at hs
    simp only [Lo.cnt]
    rcases List.mem_append.1 hs with hs | hs
    · split at hs
      · cases hs
      · rcases List.mem_append.1 hs with hs | hs
        · rcases hb with hb | ⟨hB, _, _, _, hb⟩
          · subst hb; cases hs
          · have := ihb hb s hs; omega
        · rw [List.mem_singleton.1 hs]; show m ≤ _; omega
    · have := ihr hr s hs; omega
theorem UW.le {X : Hp} {A : Option Addr} {m c : Nat} {l : Lo} (s : UW X A m c l) : ∀ x ∈ colL A m c l, x.2.1 ≤ l.cnt := by
  intro x hx
  obtain ⟨hB, _, _, _, h4⟩ := s.ex
  rcases List.mem_append.1 hx with hx | hx
  · exact h4.le x hx
  · rw [List.mem_singleton.1 hx]; have := s.len; have := l.len_cnt; show m ≤ _; omega
theorem apartTwo {h3 h4 h5 h : Hp} {A A2 : Option Addr} {m m2 c c2 : Nat} {la lb : Lo} (ua : UW (h4.sub h3) A m c la) (ub : UW (h5.sub h4) A2 m2 c2 lb) (l34 : h3.le h4) (l45 : h4.le h5) (l5 : h5.le h) (ca : la.cnt ≤ 200000) (cb : lb.cnt ≤ 200000) :
    Fn Try.prog 16 #[.slice A m c, .slice A2 m2 c2] h fun v h' => v = .bool true ∧ h3.le h' := by
  have l4 := Hp.le_trans l45 l5
  have d : ∀ j, h4.sub h3 j ≠ none → h5.sub h4 j = none := fun j hj => by
    cases q : h5.sub h4 j with
    | none => rfl
    | some o => exact absurd (le_none (Hp.sub_le h4 h3) (Hp.sub_out (h' := h5) (h := h4) (by rw [q]; simp))) hj
  refine apart27 (Y := (h4.sub h3).or (h5.sub h4)) ca cb (ua.sat.mono (Hp.le_trans (Hp.sub_le _ _) l4)) (ub.sat.mono (Hp.le_trans (Hp.sub_le _ _) l5)) (Sep.app d (Hp.le_or _ _) (Hp.le_or2 fun j hj => ?_) ub.sep ua.sep) (fun s hs => ?_) (Hp.or_le (Hp.le_trans (Hp.sub_le _ _) l4) (Hp.le_trans (Hp.sub_le _ _) l5)) (Hp.le_trans l34 l4) (fun j hj => ?_)
  · cases q : h4.sub h3 j with
    | none => rfl
    | some o => exact absurd (d j (by rw [q]; simp)) hj
  · rcases List.mem_append.1 hs with hs | hs
    · exact Nat.le_trans (ua.le s hs) ca
    · exact Nat.le_trans (ub.le s hs) cb
  · unfold Hp.or at hj
    cases q : h4.sub h3 j with
    | none =>
      rw [q] at hj
      exact Hp.none_le l34 (Hp.sub_out hj)
    | some o => exact Hp.sub_out (h' := h4) (by rw [q]; simp)
theorem foldR_cnt (w : Int) (f : Fo) : (foldR w f).2.cnt ≤ f.cnt := by
  unfold foldR
  split
  · exact Nat.zero_le _
  · split
    · exact Nat.zero_le _
    · rename_i h
      split
      · exact Nat.zero_le _
      · have := (pass_cnt (w := w.toNat) (by omega) _ f.els (Nat.le_refl _)).1
        unfold cntE at this
        rw [mk_els] at this
        exact this
end Go.Sx
namespace Go.Sx
open Go.Proofs
theorem cmp_keeps : ∀ (k w : Nat) (l : List El), 1 ≤ w → cntE (cmpF k w l) ≤ cntE l ∧ flat (mkF (cmpF k w l)) = flat (mkF l) ∧ ((∀ x ∈ l, GoodE x) → ∀ x ∈ cmpF k w l, GoodE x)
  | 0, _, _, _ => ⟨Nat.le_refl _, rfl, fun h => h⟩
  | k + 1, w, l, hw => by
    unfold cmpF
    split
    · obtain ⟨a, _⟩ := pass_cnt hw _ l (Nat.le_refl _)
      obtain ⟨b, c⟩ := pass_keeps hw _ l (Nat.le_refl _)
      split
      · obtain ⟨x, y, z⟩ := cmp_keeps k 1 (pass w l) (Nat.le_refl _)
        exact ⟨Nat.le_trans x a, y.trans b, fun h => z (c h)⟩
      · obtain ⟨x, y, z⟩ := cmp_keeps k (w + 1) (pass w l) (by omega)
        exact ⟨Nat.le_trans x a, y.trans b, fun h => z (c h)⟩
    · exact ⟨Nat.le_refl _, rfl, fun h => h⟩
theorem lfE_cnt (l : List Rn) : cntE (lfE l) = l.length := by
  rw [← lfL_els, ← lo_cnt, lfL_cnt]
theorem compR_cnt (l : List Int) : cntE (compR l).2 ≤ 2048 := by
  unfold compR
  split
  · exact Nat.zero_le _
  · split
    · exact Nat.zero_le _
    · have h1 := (cmp_keeps (20 * (lfE (runsR l)).length + 20) 1 (lfE (runsR l)) (Nat.le_refl _)).1
      have h2 := runsR_len l
      have h3 := lfE_cnt (runsR l)
      show cntE (comp _) ≤ 2048
      unfold comp
      omega
end Go.Sx
namespace Go.Sx
open Go.Proofs
/-- m rounds -/
def rnd (a b : Int) (s t : Nat) : Nat → List Int
  | 0 => []
  | m + 1 => List.replicate s a ++ (List.replicate t b ++ rnd a b s t m)
theorem rnd_len (a b : Int) (s t : Nat) : ∀ m, (rnd a b s t m).length = m * (s + t)
  | 0 => by simp [rnd]
  | m + 1 => by
    simp only [rnd, List.length_append, List.length_replicate, rnd_len a b s t m]
    rw [Nat.succ_mul]; omega
theorem rnd_snoc (a b : Int) (s t : Nat) : ∀ m, rnd a b s t (m + 1) = rnd a b s t m ++ (List.replicate s a ++ List.replicate t b)
  | 0 => by simp [rnd]
  | m + 1 => by
    show List.replicate s a ++ (List.replicate t b ++ rnd a b s t (m + 1)) = List.replicate s a ++ (List.replicate t b ++ rnd a b s t m) ++ (List.replicate s a ++ List.replicate t b)
    rw [rnd_snoc a b s t m]
    simp only [List.append_assoc]
def alt (a b : Int) (s t : Nat) : Nat → List Rn
  | 0 => []
  | m + 1 => (a, s) :: (b, t) :: alt a b s t m
theorem rnd_head {a b : Int} {s t m : Nat} (hs : 1 ≤ s) : (rnd a b s t m).head? = if m = 0 then none else some a := by
  cases m with
  | zero => rfl
  | succ m =>
    obtain ⟨s, rfl⟩ : ∃ k, s = k + 1 := ⟨s - 1, by omega⟩
    rfl
theorem rnd_runs {a b : Int} {s t : Nat} (hab : a ≠ b) (hs : 1 ≤ s) (ht : 1 ≤ t) : ∀ m, runsR (rnd a b s t m) = alt a b s t m
  | 0 => rfl
  | m + 1 => by
    obtain ⟨s', rfl⟩ : ∃ k, s = k + 1 := ⟨s - 1, by omega⟩
    obtain ⟨t', rfl⟩ : ∃ k, t = k + 1 := ⟨t - 1, by omega⟩
    show runsR (List.replicate (s' + 1) a ++ (List.replicate (t' + 1) b ++ rnd a b (s' + 1) (t' + 1) m)) = _
    rw [runsR_rep a _ ?_ s', runsR_rep b _ ?_ t', rnd_runs hab hs ht m]
    · rfl
    · rw [rnd_head hs]
      split
      · simp
      · intro e; injection e with e; exact hab e
    · intro e
      have : some b = some a := e
      injection this with this
      exact hab this.symm
theorem rnd_bad {a b : Int} {s t m : Nat} (ha : ¬ badN a) (hb : ¬ badN b) : ∀ x ∈ rnd a b s t m, ¬ badN x := by
  induction m with
  | zero => intro x hx; cases hx
  | succ m ih =>
    intro x hx
    rcases List.mem_append.1 hx with hx | hx
    · rw [List.eq_of_mem_replicate hx]; exact ha
    · rcases List.mem_append.1 hx with hx | hx
      · rw [List.eq_of_mem_replicate hx]; exact hb
      · exact ih x hx
/-- a row in which no loop is like the one ahead of it -/
def Diff : List El → Prop
  | x :: y :: l => x ≠ y ∧ Diff (y :: l)
  | _ => True
theorem pass_diff : ∀ l : List El, Diff l → pass 1 l = l
  | [], _ => rfl
  | [x], _ => by
    rw [pass_one (Nat.le_refl _) ⟨Nat.le_refl _, fun j h1 h2 => by omega, fun h => by have := h.1; simp at this⟩]
    rfl
  | x :: y :: l, ⟨h1, h2⟩ => by
    rw [pass_one (Nat.le_refl _) ⟨Nat.le_refl _, fun j h1 h2 => by omega, fun h => by
      have := h.2
      simp at this
      exact h1 this.symm⟩, pass_diff (y :: l) h2]
theorem alt_diff {a b : Int} (hab : a ≠ b) (s t : Nat) : ∀ m, Diff (lfE (alt a b s t m))
  | 0 => trivial
  | 1 => ⟨fun e => hab (by injection e with _ e; injection e), trivial⟩
  | m + 2 => ⟨fun e => hab (by injection e with _ e; injection e), fun e => hab (by injection e with _ e; injection e with e; exact e.symm), alt_diff hab s t (m + 1)⟩
theorem alt_len (a b : Int) (s t : Nat) : ∀ m, (lfE (alt a b s t m)).length = 2 * m
  | 0 => rfl
  | m + 1 => by
    have := alt_len a b s t m
    show (lfE (alt a b s t m)).length + 1 + 1 = _
    omega
theorem alt_drop (a b : Int) (s t : Nat) : ∀ j m, j ≤ m → (lfE (alt a b s t m)).drop (j * 2) = lfE (alt a b s t (m - j))
  | 0, m, _ => by simp
  | j + 1, 0, h => by omega
  | j + 1, m + 1, h => by
    have := alt_drop a b s t j m (by omega)
    rw [show (j + 1) * 2 = j * 2 + 2 by omega, show m + 1 - (j + 1) = m - j by omega, ← this]
    rfl
theorem alt_take (a b : Int) (s t m : Nat) (hm : 1 ≤ m) : (lfE (alt a b s t m)).take 2 = [((s : Int), a, Fo.nil), ((t : Int), b, Fo.nil)] := by
  obtain ⟨m, rfl⟩ : ∃ k, m = k + 1 := ⟨m - 1, by omega⟩
  rfl
theorem alt_rep (a b : Int) (s t m : Nat) (hm : 2 ≤ m) : IsRep 2 (lfE (alt a b s t m)) m := by
  refine ⟨by omega, fun j h1 h2 => ⟨by rw [alt_len]; omega, ?_⟩, fun h => by have := h.1; rw [alt_len] at this; omega⟩
  rw [alt_drop a b s t j m (by omega), alt_take _ _ _ _ _ (by omega), alt_take _ _ _ _ _ (by omega)]
theorem comp_alt {a b : Int} (hab : a ≠ b) (s t m : Nat) (hm : 2 ≤ m) : comp (lfE (alt a b s t m)) = [((m : Int), 0, mkF [((s : Int), a, Fo.nil), ((t : Int), b, Fo.nil)])] := by
  have hl := alt_len a b s t m
  have p1 := pass_diff _ (alt_diff hab s t m)
  have p2 : pass 2 (lfE (alt a b s t m)) = [((m : Int), 0, mkF [((s : Int), a, Fo.nil), ((t : Int), b, Fo.nil)])] := by
    rw [pass_many (by decide) (alt_rep a b s t m hm) hm, alt_take _ _ _ _ _ (by omega), alt_drop a b s t m m (Nat.le_refl _), Nat.sub_self]
    rfl
  obtain ⟨k, hk⟩ : ∃ k, 20 * (lfE (alt a b s t m)).length + 20 = k + 3 := ⟨20 * (lfE (alt a b s t m)).length + 17, by omega⟩
  unfold comp
  rw [hk]
  have s1 : cmpF (k + 3) 1 (lfE (alt a b s t m)) = cmpF (k + 2) 2 (lfE (alt a b s t m)) := by
    show cmpF ((k + 2) + 1) 1 _ = _
    rw [cmpF, if_pos ⟨by decide, by omega⟩, p1, if_neg (Nat.lt_irrefl _)]
  have s2 : cmpF (k + 2) 2 (lfE (alt a b s t m)) = cmpF (k + 1) 1 [((m : Int), 0, mkF [((s : Int), a, Fo.nil), ((t : Int), b, Fo.nil)])] := by
    show cmpF ((k + 1) + 1) 2 _ = _
    rw [cmpF, if_pos ⟨by decide, by omega⟩, p2, if_pos (by rw [hl, List.length_singleton]; omega)]
  rw [s1, s2]
  exact (Cend (k := k + 1) (w := 1) rfl (by rw [List.length_singleton]; omega)).symm
theorem compR_rnd {a b : Int} {s t m : Nat} (hab : a ≠ b) (hs : 1 ≤ s) (ht : 1 ≤ t) (hm : 2 ≤ m) (ha : ¬ badN a) (hb : ¬ badN b) (hl : m * (s + t) ≤ 2048) : compR (rnd a b s t m) = (0, [((m : Int), 0, mkF [((s : Int), a, Fo.nil), ((t : Int), b, Fo.nil)])]) := by
  unfold compR
  rw [if_neg (by rw [rnd_len]; omega), if_neg (fun ⟨x, hx, hbx⟩ => rnd_bad ha hb x hx hbx), rnd_runs hab hs ht, comp_alt hab s t m hm]
end Go.Sx
namespace Go.Sx
open Go.Proofs
theorem pass_same {w : Nat} (hw : 1 ≤ w) : ∀ (N : Nat) (l : List El), l.length ≤ N → (pass w l).length = l.length → pass w l = l
  | _, [], _, _ => rfl
  | 0, x :: l, h, _ => by simp at h
  | N + 1, x :: l, h, he => by
    simp only [List.length_cons] at h
    have hr := rep_is hw (x :: l)
    by_cases h1 : reps w (x :: l) = 1
    · rw [h1] at hr
      rw [pass_one hw hr] at he ⊢
      simp only [List.length_cons] at he
      rw [pass_same hw N l (by omega) (by omega)]
    · have h2 : 2 ≤ reps w (x :: l) := by have := hr.pos; omega
      obtain ⟨m, hm⟩ : ∃ m, m = reps w (x :: l) := ⟨_, rfl⟩
      rw [← hm] at hr h2
      have hroom := hr.room h2
      have hmw : 2 * w ≤ m * w := Nat.mul_le_mul_right w h2
      rw [pass_many hw hr h2] at he
      have hc := (pass_cnt hw _ ((x :: l).drop (m * w)) (Nat.le_refl _)).2
      rw [List.length_drop] at hc
      simp only [List.length_cons] at he hc hroom
      omega
theorem pass_short {w : Nat} (hw : 1 ≤ w) : ∀ l : List El, l.length < 2 * w → pass w l = l
  | [], _ => rfl
  | x :: l, h => by
    have hr : IsRep w (x :: l) 1 := ⟨Nat.le_refl _, fun j h1 h2 => by omega, fun q => by have := q.1; omega⟩
    simp only [List.length_cons] at h
    rw [pass_one hw hr, pass_short hw l (by omega)]
theorem cmp_fix : ∀ (k w : Nat) (l : List El), 1 ≤ w → 20 * l.length + 17 < k + w → (∀ v, 1 ≤ v → v < w → pass v l = l) → ∀ v, 1 ≤ v → v ≤ 16 → pass v (cmpF k w l) = cmpF k w l
  | 0, w, l, _, hk, hf, v, h1, h2 => hf v h1 (by omega)
  | k + 1, w, l, hw, hk, hf, v, h1, h2 => by
    unfold cmpF
    split
    · rename_i hc
      split
      · rename_i hs
        exact cmp_fix k 1 _ (Nat.le_refl _) (by omega) (fun v a b => by omega) v h1 h2
      · rename_i hs
        have hp := (pass_cnt hw _ l (Nat.le_refl _)).2
        have he := pass_same hw _ l (Nat.le_refl _) (by omega)
        rw [he]
        refine cmp_fix k (w + 1) l (by omega) (by omega) (fun v a b => ?_) v h1 h2
        by_cases hv : v = w
        · subst hv; exact he
        · exact hf v a (by omega)
    · rename_i hc
      by_cases hv : v < w
      · exact hf v h1 hv
      · exact pass_short h1 l (by omega)
theorem comp_fix (l : List El) : ∀ v, 1 ≤ v → v ≤ 16 → pass v (comp l) = comp l :=
  cmp_fix _ 1 l (Nat.le_refl _) (by omega) (fun v a b => by omega)
/-! ### depth -/
def Blk2 : Fo → Prop
  | .nil => True
  | .cons t _ b r => 1 ≤ t ∧ (b.leaf = false → 2 ≤ t) ∧ Blk2 b ∧ Blk2 r
def Blk2E (x : El) : Prop := 1 ≤ x.1 ∧ (x.2.2.leaf = false → 2 ≤ x.1) ∧ Blk2 x.2.2
theorem blk2_mk : ∀ l : List El, Blk2 (mkF l) ↔ ∀ x ∈ l, Blk2E x
  | [] => ⟨(fun _ x h => by cases h), fun _ => trivial⟩
  | (t, n, b) :: l => by
    simp only [mkF, Blk2, blk2_mk l, List.mem_cons, forall_eq_or_imp, Blk2E]
    constructor
    · rintro ⟨a, b, c, d⟩; exact ⟨⟨a, b, c⟩, d⟩
    · rintro ⟨⟨a, b, c⟩, d⟩; exact ⟨a, b, c, d⟩
theorem deep_tot : ∀ f : Fo, Blk2 f → f.leaf = false → 2 ^ deep f ≤ tot f
  | .nil, _, h => by cases h
  | .cons t n b r, ⟨h1, h2, h3, h4⟩, _ => by
    have hr : r.leaf = false → 2 ^ deep r ≤ tot r := deep_tot r h4
    have hr2 : 2 ^ deep r ≤ tot r + 1 := by
      cases hl : r.leaf with
      | true => rw [leaf_nil hl]; simp [deep]
      | false => have := hr hl; omega
    obtain ⟨T, rfl⟩ : ∃ T : Nat, t = T := ⟨t.toNat, by omega⟩
    simp only [deep, tot, Int.toNat_natCast]
    cases hl : b.leaf with
    | true =>
      simp only [cond_true, Nat.zero_max]
      omega
    | false =>
      have hb := deep_tot b h3 hl
      have h2 := h2 hl
      simp only [cond_false]
      have hm : 2 * tot b ≤ T * tot b := Nat.mul_le_mul_right _ (by omega)
      have hp : 2 ^ (deep b + 1) = 2 * 2 ^ deep b := by rw [Nat.pow_succ]; omega
      rcases Nat.le_total (deep b + 1) (deep r) with hd | hd
      · rw [Nat.max_eq_right hd]
        have : 1 ≤ 2 ^ deep b := Nat.one_le_two_pow
        omega
      · rw [Nat.max_eq_left hd]
        omega
theorem pass_blk {w : Nat} (hw : 1 ≤ w) : ∀ (N : Nat) (l : List El), l.length ≤ N → (∀ x ∈ l, Blk2E x) → ∀ x ∈ pass w l, Blk2E x
  | N, [], _, _ => fun x h => by cases h
  | 0, x :: l, h, _ => by simp at h
  | N + 1, x :: l, h, hg => by
    simp only [List.length_cons] at h
    have hr := rep_is hw (x :: l)
    by_cases h1 : reps w (x :: l) = 1
    · rw [h1] at hr
      rw [pass_one hw hr]
      intro y hy
      rcases List.mem_cons.1 hy with rfl | hy
      · exact hg _ (List.mem_cons_self ..)
      · exact pass_blk hw N l (by omega) (fun z hz => hg z (List.mem_cons_of_mem _ hz)) y hy
    · have h2 : 2 ≤ reps w (x :: l) := by have := hr.pos; omega
      obtain ⟨m, hm⟩ : ∃ m, m = reps w (x :: l) := ⟨_, rfl⟩
      rw [← hm] at hr h2
      have hmw : 2 * w ≤ m * w := Nat.mul_le_mul_right w h2
      rw [pass_many hw hr h2]
      intro y hy
      rcases List.mem_cons.1 hy with rfl | hy
      · exact ⟨by show (1 : Int) ≤ (m : Int); omega, fun _ => by show (2 : Int) ≤ (m : Int); omega, (blk2_mk _).2 fun z hz => hg z (List.mem_of_mem_take hz)⟩
      · exact pass_blk hw N _ (by rw [List.length_drop, List.length_cons]; omega) (fun z hz => hg z (List.mem_of_mem_drop hz)) y hy
theorem cmp_blk : ∀ (k w : Nat) (l : List El), 1 ≤ w → (∀ x ∈ l, Blk2E x) → ∀ x ∈ cmpF k w l, Blk2E x
  | 0, _, _, _, h => h
  | k + 1, w, l, hw, h => by
    unfold cmpF
    split
    · split
      · exact cmp_blk k 1 _ (Nat.le_refl _) (pass_blk hw _ l (Nat.le_refl _) h)
      · exact cmp_blk k (w + 1) _ (by omega) (pass_blk hw _ l (Nat.le_refl _) h)
    · exact h
/-! ### leaves that fire once -/
def onceF : Fo → Nat
  | .nil => 0
  | .cons t _ b r => (bif b.leaf then (if t = 1 then 1 else 0) else onceF b) + onceF r
theorem once_heads : ∀ f : Fo, heads f + onceF f ≤ f.cnt
  | .nil => Nat.le_refl _
  | .cons t n b r => by
    have h1 := once_heads b
    have h2 := once_heads r
    simp only [heads, onceF, Fo.cnt]
    cases hl : b.leaf with
    | true =>
      have := leaf_nil hl
      subst this
      simp only [cond_true, heads] at h1 ⊢
      split <;> split <;> omega
    | false =>
      simp only [cond_false]
      split <;> omega
theorem once_cnt (f : Fo) : onceF f ≤ f.cnt := by have := once_heads f; omega
/-! ### the runs -/
theorem lf_flat : ∀ l : List Int, flat (mkF (lfE (runsR l))) = l
  | [] => rfl
  | x :: l => by
    have ih := lf_flat l
    simp only [runsR]
    split
    · rename_i y k r h
      rw [h] at ih
      simp only [lfE, List.map_cons, mkF, flat, Fo.leaf, cond_true, Int.toNat_natCast] at ih
      split
      · rename_i e
        subst e
        simp only [lfE, List.map_cons, mkF, flat, Fo.leaf, cond_true, Int.toNat_natCast, rep]
        rw [List.append_assoc, ih]
        rfl
      · simp only [lfE, List.map_cons, mkF, flat, Fo.leaf, cond_true, Int.toNat_natCast]
        rw [ih]
        rfl
    · rename_i h
      rw [h] at ih
      simp only [lfE, List.map_nil, mkF, flat] at ih
      rw [← ih]
      rfl
theorem runs_pos : ∀ l : List Int, ∀ r ∈ runsR l, 1 ≤ r.2
  | [], _, h => by cases h
  | x :: l, r, h => by
    have ih := runs_pos l
    simp only [runsR] at h
    split at h
    · rename_i y k q hq
      rw [hq] at ih
      split at h
      · rcases List.mem_cons.1 h with rfl | h
        · show 1 ≤ k + 1; omega
        · exact ih r (List.mem_cons_of_mem _ h)
      · rcases List.mem_cons.1 h with rfl | h
        · exact Nat.le_refl _
        · exact ih r h
    · rw [List.mem_singleton.1 h]; exact Nat.le_refl _
/-- a list that may be compressed, compressed -/
structure Cm (l : List Int) (C : List El) : Prop where
  good : Good (mkF C)
  fl : flat (mkF C) = l
  dp : deep (mkF C) ≤ 11
  chk : checkF (mkF C) = 0
  cnt : (mkF C).cnt ≤ (runsR l).length
  fix : ∀ v, 1 ≤ v → v ≤ 16 → pass v C = C
theorem Cm.of {l : List Int} (hl : l.length ≤ 2048) (hb : ∀ x ∈ l, ¬ badN x) : Cm l (comp (lfE (runsR l))) := by
  have hok : ∀ x ∈ lfE (runsR l), GoodE x ∧ Blk2E x := by
    intro x hx
    obtain ⟨r, hr, rfl⟩ := List.mem_map.1 hx
    have h1 := runs_pos l r hr
    have h2 := (runs_all l (P := fun x => ¬ badN x)).2 hb r hr
    unfold badN at h2
    refine ⟨⟨by show (1 : Int) ≤ (r.2 : Int); omega, fun _ => ⟨by show (0 : Int) ≤ r.1; omega, by show r.1 < (32 : Int); omega⟩, (fun q => by cases q), trivial⟩, ⟨by show (1 : Int) ≤ (r.2 : Int); omega, (fun q => by cases q), trivial⟩⟩
  obtain ⟨k1, k2, k3⟩ := cmp_keeps (20 * (lfE (runsR l)).length + 20) 1 (lfE (runsR l)) (Nat.le_refl _)
  have k4 := cmp_blk (20 * (lfE (runsR l)).length + 20) 1 (lfE (runsR l)) (Nat.le_refl _) fun x hx => (hok x hx).2
  have k5 := comp_fix (lfE (runsR l))
  have hC : cmpF (20 * (lfE (runsR l)).length + 20) 1 (lfE (runsR l)) = comp (lfE (runsR l)) := rfl
  rw [hC] at k1 k2 k3 k4
  generalize comp (lfE (runsR l)) = C at k1 k2 k3 k4 k5
  have hg := (good_mk C).2 (k3 fun x hx => (hok x hx).1)
  have h2 := (blk2_mk C).2 k4
  have hfl : flat (mkF C) = l := k2.trans (lf_flat l)
  have ht : tot (mkF C) ≤ 2048 := by rw [← flat_len, hfl]; exact hl
  have hd : deep (mkF C) ≤ 11 := by
    cases hlf : (mkF C).leaf with
    | true => rw [leaf_nil hlf]; exact Nat.zero_le _
    | false =>
      have h3 := deep_tot _ h2 hlf
      rcases Nat.lt_or_ge 11 (deep (mkF C)) with h4 | h4
      · have := Nat.pow_le_pow_right (n := 2) (by decide) (show 12 ≤ deep (mkF C) from h4)
        have e : 2 ^ 12 = 4096 := by decide
        omega
      · exact h4
  refine ⟨hg, hfl, hd, ?_, ?_, k5⟩
  · rw [check_good hg ht, if_pos (by omega)]
  · rw [lfE_cnt] at k1; exact k1
theorem Cm.fold {l : List Int} {C : List El} (x : Cm l C) (w : Int) : foldR w (mkF C) = if w < 1 ∨ 16 < w then (1, .nil) else (0, mkF C) := by
  unfold foldR
  rw [if_neg (fun q => q x.chk)]
  split
  · rfl
  · rw [els_mk, x.fix w.toNat (by omega) (by omega), if_neg (fun q => q x.chk)]
end Go.Sx
namespace Go.Sx
open Go.Proofs
set_option maxRecDepth 100000
def okL (l : List Int) : Bool := decide (l.length ≤ 2048 ∧ ∀ x ∈ l, ¬ badN x)
theorem good27 (D : Option Addr) (n cap : Nat) (l : List Int) (h : Hp) (hz : Tab h 1 D n (l.map fun z => [iv z])) (hn : n ≤ 1000000000000000000) :
    Fn Try.prog 27 #[.slice D n cap] h fun v h' => v = .bool (okL l) ∧ h' = h := by
  have hl : l.length = n := by simpa using hz.len
  refine Fn.intro (args := [.slice D n cap]) mix16 Try.func27 rfl (by decide) Try.ntmps27 rfl (low27 rfl) rfl ?_
  conv => whnf
  refine .mk Nat [0, 3] (fun i => [.v (.slice D n cap), .v (iv i)]) (fun _ => []) (fun i h' => h' = h ∧ i ≤ n ∧ ∀ x ∈ l.take i, ¬ badN x) (fun i => n - i) 0 (fun _ => rfl) ⟨rfl, Nat.zero_le _, fun x hx => by simp at hx⟩ rfl rfl ?_
  rintro i e h' ⟨rfl, him, hok⟩
  conv => whnf
  refine br_dec (fun u1 => ?_) (fun u1 => ?_)
  · have hi : i < l.length := by omega
    obtain ⟨z, hzz⟩ : ∃ z, z = l[i] := ⟨_, rfl⟩
    have hget : (l.map fun z => [iv z])[i]? = some [iv z] := by rw [List.getElem?_map, List.getElem?_eq_getElem hi, hzz]; rfl
    obtain ⟨g, hg⟩ := hz.ad (by omega)
    have bad : badN z → okL l = false := fun q => decide_eq_false fun hh => hh.2 z (by rw [hzz]; exact List.getElem_mem _) q
    conv => whnf
    refine .mk g hg (by omega) (by omega) ?_
    conv => whnf
    refine .hp (iv z) (by rw [Int.toNat_natCast]; exact hz.one hg hget rfl) ?_
    conv => whnf
    refine br_dec (fun u2 => ?_) (fun u2 => ?_)
    · conv => whnf
      refine .done ⟨?_, rfl⟩
      rw [bad (.inl u2)]; rfl
    conv => whnf
    refine .mk g hg (by omega) (by omega) ?_
    conv => whnf
    refine .hp (iv z) (by rw [Int.toNat_natCast]; exact hz.one hg hget rfl) ?_
    conv => whnf
    refine br_dec (fun u3 => ?_) (fun u3 => ?_)
    · conv => whnf
      refine .done ⟨?_, rfl⟩
      rw [bad (.inr (by omega))]; rfl
    conv => whnf
    refine .ok (by omega) (by omega) ?_
    conv => whnf
    refine ⟨i + 1, rfl, rfl, ⟨rfl, by omega, fun x hx => ?_⟩, by show n - (i + 1) < n - i; omega⟩
    rw [List.take_add_one, List.getElem?_eq_getElem hi] at hx
    rcases List.mem_append.1 hx with hx | hx
    · exact hok x hx
    · rw [List.mem_singleton.1 hx, ← hzz]
      rintro (q | q)
      · exact u2 q
      · exact u3 (by omega)
  · have him : i = n := by omega
    subst him
    rw [List.take_of_length_le (by omega)] at hok
    conv => whnf
    refine .done ⟨?_, rfl⟩
    have : okL l = decide ((i : Int) ≤ 2048) := by
      unfold okL
      congr 1
      refine propext ⟨fun q => ?_, fun q => ⟨?_, hok⟩⟩
      · have := q.1; omega
      · omega
    rw [this]
    rfl
theorem once30 : ∀ (N : Nat) (l : Lo), l.cnt < N → l.cnt ≤ 200000 → ∀ (A : Option Addr) (m cap : Nat) (h : Hp), SAt h A m l →
    Fn Try.prog 30 #[.slice A m cap] h fun v h' => h' = h ∧ v = iv (onceF l.fo)
  | 0, l, hN, _ => absurd hN (Nat.not_lt_zero _)
  | N + 1, l, hN, hc0 => by
    intro A m cap h hs
    refine Fn.intro (args := [.slice A m cap]) mix16 Try.func30 rfl (by decide) Try.ntmps30 rfl (low30 rfl) rfl ?_
    conv => whnf
    refine .mk (Nat × Nat × Lo) [0, 3, 4] (fun (i, q, _) => [.v (.slice A m cap), .v (iv q), .v (iv i)]) (fun _ => [])
        (fun (i, q, r) h' => h' = h ∧ Tl h A m i r ∧ i ≤ l.cnt ∧ r.cnt ≤ l.cnt ∧ i + r.cnt ≤ l.cnt ∧ q + onceF r.fo = onceF l.fo) (fun (i, _, _) => m - i) (0, 0, l) (fun _ => rfl) ⟨rfl, hs.tl, Nat.zero_le _, Nat.le_refl _, by omega, by omega⟩ rfl rfl ?_
    rintro ⟨i, q, r⟩ e h' ⟨rfl, ht, hi0, hrl, hil, he⟩
    have hon := once_cnt l.fo
    rw [l.fo_cnt] at hon
    conv => whnf
    refine br_dec (fun h2 => ?_) (fun h2 => ?_)
    · cases r with
      | nil => have := ht.fin; omega
      | cons t w B m' c b r =>
        obtain ⟨g, hA, hi, hc, hb, hr⟩ := ht.open
        simp only [Lo.cnt] at hrl hil
        have hlf : b.fo.leaf = decide (m' = 0) := by
          have := hb.1
          cases b with
          | nil => rw [this]; rfl
          | cons => rw [this]; simp [Lo.fo, Fo.leaf, Lo.len]
        simp only [Lo.fo, onceF, hlf] at he
        conv => whnf
        refine .mk g hA (by omega) (by omega) ?_
        conv => whnf
        refine .hp _ (by rw [Int.toNat_natCast]; exact hc 2 _ rfl) ?_
        conv => whnf
        refine br_dec (fun h3 => ?_) (fun h3 => ?_)
        · rw [decide_eq_false (by omega)] at he
          simp only [cond_false] at he
          conv => whnf
          refine .mk g hA (by omega) (by omega) ?_
          conv => whnf
          refine .hp _ (by rw [Int.toNat_natCast]; exact hc 2 _ rfl) ?_
          conv => whnf
          refine .done (.mk _ (once30 N b (by omega) (by omega) B m' c h' hb) ?_)
          rintro _ _ ⟨rfl, rfl⟩
          conv => whnf
          refine .ok (by omega) (by omega) ?_
          conv => whnf
          refine .ok (by omega) (by omega) ?_
          conv => whnf
          exact ⟨(i + 1, q + onceF b.fo, r), rfl, rfl, ⟨rfl, hr, by omega, by omega, by omega, by omega⟩, by show m - (i + 1) < m - i; omega⟩
        · rw [decide_eq_true (by omega)] at he
          simp only [cond_true] at he
          conv => whnf
          refine .mk g hA (by omega) (by omega) ?_
          conv => whnf
          refine .hp _ (by rw [Int.toNat_natCast]; exact hc 0 _ rfl) ?_
          conv => whnf
          refine br_dec (fun h4 => ?_) (fun h4 => ?_)
          · rw [if_pos h4] at he
            conv => whnf
            refine .ok (by omega) (by omega) ?_
            conv => whnf
            refine .ok (by omega) (by omega) ?_
            conv => whnf
            exact ⟨(i + 1, q + 1, r), rfl, rfl, ⟨rfl, hr, by omega, by omega, by omega, by omega⟩, by show m - (i + 1) < m - i; omega⟩
          · rw [if_neg h4] at he
            conv => whnf
            refine .ok (by omega) (by omega) ?_
            conv => whnf
            exact ⟨(i + 1, q, r), rfl, rfl, ⟨rfl, hr, by omega, by omega, by omega, by omega⟩, by show m - (i + 1) < m - i; omega⟩
    · conv => whnf
      refine .done ⟨rfl, ?_⟩
      have : r = .nil := by
        cases r with
        | nil => rfl
        | cons => obtain ⟨g, hA, hi, _⟩ := ht.open; omega
      subst this
      simp only [Lo.fo, onceF] at he
      rw [← he]; rfl
end Go.Sx
