/- LoopsRound: the law's own function answers true. Conditions: none. -/
import Derived.Test.YtndkgmgkbedepaaM17S
import Derived.Test.YtndkgmgkbedepaaLR6
namespace Go.Sx
open Go.Proofs
set_option maxRecDepth 100000
theorem lawR5 (a b s0 t0 m0 : Int) (h : Hp) : Fn Try.prog 5 #[.agg #[iv a, iv b, iv s0, iv t0, iv m0]] h fun v h' => v = .bool true ∧ h.le h' := by
  refine Fn.intro (args := [.agg #[iv a, iv b, iv s0, iv t0, iv m0]]) mix16 Try.func5 rfl (by decide) Try.ntmps5 rfl (low5 rfl) rfl ?_
  conv => whnf
  refine br_dec (fun u => ?_) (fun a1 => ?_)
  · conv => whnf
    exact .done ⟨rfl, Hp.le_refl _⟩
  conv => whnf
  refine br_dec (fun u => ?_) (fun a2 => ?_)
  · conv => whnf
    exact .done ⟨rfl, Hp.le_refl _⟩
  conv => whnf
  refine br_dec (fun u => ?_) (fun b1 => ?_)
  · conv => whnf
    exact .done ⟨rfl, Hp.le_refl _⟩
  conv => whnf
  refine br_dec (fun u => ?_) (fun b2 => ?_)
  · conv => whnf
    exact .done ⟨rfl, Hp.le_refl _⟩
  conv => whnf
  refine br_dec (fun u => ?_) (fun hab => ?_)
  · conv => whnf
    exact .done ⟨rfl, Hp.le_refl _⟩
  conv => whnf
  refine br_dec (fun u => ?_) (fun s1 => ?_)
  · conv => whnf
    exact .done ⟨rfl, Hp.le_refl _⟩
  conv => whnf
  refine br_dec (fun u => ?_) (fun s2 => ?_)
  · conv => whnf
    exact .done ⟨rfl, Hp.le_refl _⟩
  conv => whnf
  refine br_dec (fun u => ?_) (fun t1 => ?_)
  · conv => whnf
    exact .done ⟨rfl, Hp.le_refl _⟩
  conv => whnf
  refine br_dec (fun u => ?_) (fun t2 => ?_)
  · conv => whnf
    exact .done ⟨rfl, Hp.le_refl _⟩
  conv => whnf
  refine br_dec (fun u => ?_) (fun m1 => ?_)
  · conv => whnf
    exact .done ⟨rfl, Hp.le_refl _⟩
  obtain ⟨s, rfl⟩ : ∃ s : Nat, s0 = s := ⟨s0.toNat, by omega⟩
  obtain ⟨t, rfl⟩ : ∃ t : Nat, t0 = t := ⟨t0.toNat, by omega⟩
  obtain ⟨m, rfl⟩ : ∃ m : Nat, m0 = m := ⟨m0.toNat, by omega⟩
  have hd : Int.tdiv 2048 ((s : Int) + t) = ((2048 / (s + t) : Nat) : Int) := by
    rw [← Int.natCast_add]; exact (div_lt (q := 0) (by omega)).1
  have hd1 := Nat.div_le_self 2048 (s + t)
  have hd2 : 2048 / (s + t) * (s + t) ≤ 2048 := Nat.div_mul_le_self 2048 (s + t)
  generalize 2048 / (s + t) = qq at hd hd1 hd2
  conv => whnf
  refine .ok (by omega) (by omega) ?_
  conv => whnf
  refine .mk (by omega) ?_
  conv => whnf
  refine .ok (by omega) (by omega) ?_
  conv => whnf
  refine br_dec (fun u => ?_) (fun m2 => ?_)
  · conv => whnf
    exact .done ⟨rfl, Hp.le_refl _⟩
  have hm : m ≤ qq := by omega
  have hmst : m * (s + t) ≤ 2048 := Nat.le_trans (Nat.mul_le_mul_right _ hm) hd2
  have hcr := compR_rnd (a := a) (b := b) (s := s) (t := t) (m := m) hab (by omega) (by omega) (by omega) (by unfold badN; omega) (by unfold badN; omega) hmst
  have hLn := rnd_len a b s t m
  conv => whnf
  refine .mkS [] (Nat × Option Addr × Nat × Nat) [3, 4, 5, 6, 7, 8, 9] (fun (i, D, n, c) => [.v (iv a), .v (iv b), .v (iv s), .v (iv t), .v (iv m), .v (.slice D n c), .v (iv i)]) (fun _ => [])
    (fun (i, D, n, c) h' => i ≤ m ∧ Row h h' D n c (rnd a b s t i)) (fun (i, _, _, _) => m - i) (0, none, 0, 0) (fun _ => rfl) ⟨Nat.zero_le _, Row.nil h⟩ rfl rfl rfl ?_
  rintro ⟨i, D, n, c⟩ e h' ⟨hi, hq⟩
  refine .done ?_
  conv => whnf
  refine br_dec (fun u => ?_) (fun u => ?_)
  · have hmi : (i + 1) * (s + t) ≤ 2048 := Nat.le_trans (Nat.mul_le_mul_right _ (by omega)) hmst
    rw [Nat.succ_mul] at hmi
    have hn0 := hq.n
    rw [rnd_len] at hn0
    conv => whnf
    refine .mkS [] (Nat × Option Addr × Nat × Nat) [3, 4, 5, 6, 7, 8, 9, 10] (fun (k, D, n, c) => [.v (iv a), .v (iv b), .v (iv s), .v (iv t), .v (iv m), .v (.slice D n c), .v (iv i), .v (iv k)]) (fun _ => [])
      (fun (k, D, n, c) h' => k ≤ s ∧ Row h h' D n c (rnd a b s t i ++ List.replicate k a)) (fun (k, _, _, _) => s - k) (0, D, n, c) (fun _ => rfl) ⟨Nat.zero_le _, by simpa using hq⟩ rfl rfl rfl ?_
    clear hq hn0
    rintro ⟨k, D, n, c⟩ e h' ⟨hk, hq⟩
    refine .done ?_
    conv => whnf
    refine br_dec (fun u2 => ?_) (fun u2 => ?_)
    · have hn0 := hq.n
      rw [List.length_append, rnd_len, List.length_replicate] at hn0
      conv => whnf
      refine .abs 3 1 D n c _ hq.row (.done (.old 1 _ [iv a] rfl rfl (numsv_one [a]) (by simp [maxLen]; omega) (by omega) fun D2 c2 hD2 => ?_))
      conv => whnf
      refine .ok (by omega) (by omega) ?_
      conv => whnf
      refine .pub 1 3 1 D2 (n + 1) c2 _ rfl fun h4 l4 hro hf => .done ⟨(k + 1, D2, n + 1, c2), rfl, rfl, ⟨by omega, ?_⟩, by show s - (k + 1) < s - k; omega⟩
      have := hq.step (w := [a]) (Hp.le_refl h') l4 hro hf
      rwa [List.append_assoc, ← List.replicate_succ'] at this
    · obtain rfl : k = s := by omega
      conv => whnf
      refine .mkS [] (Nat × Option Addr × Nat × Nat) [3, 4, 5, 6, 7, 8, 9, 11] (fun (q, D, n, c) => [.v (iv a), .v (iv b), .v (iv k), .v (iv t), .v (iv m), .v (.slice D n c), .v (iv i), .v (iv q)]) (fun _ => [])
        (fun (q, D, n, c) h' => q ≤ t ∧ Row h h' D n c (rnd a b k t i ++ (List.replicate k a ++ List.replicate q b))) (fun (q, _, _, _) => t - q) (0, D, n, c) (fun _ => rfl) ⟨Nat.zero_le _, by simpa using hq⟩ rfl rfl rfl ?_
      clear hq
      rintro ⟨q, D, n, c⟩ e h' ⟨hk, hq⟩
      refine .done ?_
      conv => whnf
      refine br_dec (fun u3 => ?_) (fun u3 => ?_)
      · have hn0 := hq.n
        rw [List.length_append, List.length_append, rnd_len, List.length_replicate, List.length_replicate] at hn0
        conv => whnf
        refine .abs 3 1 D n c _ hq.row (.done (.old 1 _ [iv b] rfl rfl (numsv_one [b]) (by simp [maxLen]; omega) (by omega) fun D2 c2 hD2 => ?_))
        conv => whnf
        refine .ok (by omega) (by omega) ?_
        conv => whnf
        refine .pub 1 3 1 D2 (n + 1) c2 _ rfl fun h4 l4 hro hf => .done ⟨(q + 1, D2, n + 1, c2), rfl, rfl, ⟨by omega, ?_⟩, by show t - (q + 1) < t - q; omega⟩
        have := hq.step (w := [b]) (Hp.le_refl h') l4 hro hf
        rwa [List.append_assoc, List.append_assoc, ← List.replicate_succ'] at this
      · obtain rfl : q = t := by omega
        conv => whnf
        refine .ok (by omega) (by omega) ?_
        conv => whnf
        refine .done ⟨(i + 1, D, n, c), rfl, rfl, ⟨by omega, ?_⟩, by show m - (i + 1) < m - i; omega⟩
        rw [rnd_snoc]; exact hq
  · obtain rfl : i = m := by omega
    have hn := hq.n
    rw [hLn] at hn
    have r1 := hq.row.nums
    conv => whnf
    refine .done (.mk _ (compress18 (rnd a b s t i) D n c h' r1) ?_)
    rintro _ h2 ⟨l2, A2, m2', c2, p2, rfl, u2, f2⟩
    rw [hcr] at f2 ⊢
    have hsn : s ≤ n := by
      rw [hn]
      have : 1 * (s + t) ≤ i * (s + t) := Nat.mul_le_mul_right _ (by omega)
      omega
    have hcap := row_capn hq.row
    conv => whnf
    refine .mk 0 s rfl rfl (Nat.zero_le _) (by omega) fun B hB1 hB2 => ?_
    have tB : Tab h2 1 B s ((List.replicate s a).map fun z => [iv z]) := by
      have x1 := ((r1.mono l2).drop (k := 0) (B := B) (fun q => by rw [hB1 (by omega)]) (Nat.zero_le _)).take (k := s) (by omega)
      rw [List.drop_zero, ← List.map_take] at x1
      have : (rnd a b s t i).take s = List.replicate s a := by
        obtain ⟨j, rfl⟩ : ∃ j, i = j + 1 := ⟨i - 1, by omega⟩
        exact List.take_left' List.length_replicate
      rwa [this] at x1
    rw [Nat.sub_zero, Nat.sub_zero]
    conv => whnf
    obtain ⟨s', rfl⟩ : ∃ k, s = k + 1 := ⟨s - 1, by omega⟩
    refine .done (.mk _ (compress18 (List.replicate (s' + 1) a) B (s' + 1) c h2 tB) ?_)
    rintro _ h3 ⟨l3, A3, m3, c3, p3, rfl, u3, f3⟩
    rw [compR_rep a s' (by omega) (by omega) (by omega)] at f3 ⊢
    have s2 := u2.sat.mono (Hp.le_trans (Hp.sub_le _ _) l3)
    have s3 := u3.sat.mono (Hp.sub_le _ _)
    conv => whnf
    refine .done (.mk _ (leaf22 a ((s' + 1 : Nat) : Int) _) ?_)
    rintro _ _ ⟨rfl, rfl⟩
    conv => whnf
    refine .done (.mk _ (leaf22 b t _) ?_)
    rintro _ h3 ⟨rfl, rfl⟩
    conv => whnf
    refine .mk fun b9 hb9 => ?_
    conv => whnf
    have l9 := Hp.le_put (o := .cells (lf1 a ((s' + 1 : Nat) : Int) (lf1 b t .nil)).cl.flatten.toArray 41 (0, 0)) hb9
    have s9 := sat_lit (lf1 a ((s' + 1 : Nat) : Int) (lf1 b t .nil)) (h := h3.put b9 _) (Hp.put_same _ _ _) (bdw_lf (bdw_lf (bdw_nil _)))
    refine .done (.mk _ (block21 i (some ⟨b9, 0, none⟩) 2 2 _) ?_)
    rintro _ h10 ⟨rfl, rfl⟩
    conv => whnf
    refine .mk fun b10 hb10 => ?_
    conv => whnf
    have l10 := Hp.le_put (o := .cells (Lo.cons i 0 (some ⟨b9, 0, none⟩) 2 2 (lf1 a ((s' + 1 : Nat) : Int) (lf1 b t .nil)) .nil).cl.flatten.toArray 41 (0, 0)) hb10
    have s10 := sat_lit (Lo.cons i 0 (some ⟨b9, 0, none⟩) 2 2 (lf1 a ((s' + 1 : Nat) : Int) (lf1 b t .nil)) .nil) (h := Hp.put (h3.put b9 _) b10 _) (Hp.put_same _ _ _) ⟨s9.mono l10, bdw_nil _⟩
    have hc2 : p2.cnt ≤ 200000 := by rw [lo_cnt, f2]; simp [cntE, mkF, Fo.cnt]
    have hc3 : p3.cnt ≤ 200000 := by rw [lo_cnt, f3]; simp [cntE, mkF, Fo.cnt]
    have l39 := Hp.le_trans l9 l10
    refine .done (.mk _ (sameLoops13 _ p2 (Nat.lt_succ_self _) hc2 _ A2 (some ⟨b10, 0, none⟩) m2' 1 c2 1 _ (s2.mono l39) s10) ?_)
    rintro _ h11 ⟨rfl, rfl⟩
    rw [decide_eq_true (els_inj (by rw [f2]; rfl))]
    conv => whnf
    refine .done (.mk _ (awake15 _) ?_)
    rintro _ h12 ⟨rfl, l12⟩
    conv => whnf
    refine .done (.mk _ (leaf22 a ((s' + 1 : Nat) : Int) _) ?_)
    rintro _ h12 ⟨rfl, rfl⟩
    conv => whnf
    refine .mk fun b13 hb13 => ?_
    conv => whnf
    have l13 := Hp.le_put (o := .cells (lf1 a ((s' + 1 : Nat) : Int) .nil).cl.flatten.toArray 41 (0, 0)) hb13
    have s13 := sat_lit (lf1 a ((s' + 1 : Nat) : Int) .nil) (h := h12.put b13 _) (Hp.put_same _ _ _) (bdw_lf (bdw_nil _))
    refine .done (.mk _ (sameLoops13 _ p3 (Nat.lt_succ_self _) hc3 _ A3 (some ⟨b13, 0, none⟩) m3 1 c3 1 _ (s3.mono (Hp.le_trans l39 (Hp.le_trans l12 l13))) s13) ?_)
    rintro _ h14 ⟨rfl, rfl⟩
    rw [decide_eq_true (els_inj (by rw [f3]; rfl))]
    conv => whnf
    exact .done ⟨rfl, Hp.le_trans hq.le (Hp.le_trans l2 (Hp.le_trans l3 (Hp.le_trans l39 (Hp.le_trans l12 l13))))⟩
end Go.Sx
