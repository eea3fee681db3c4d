/- NestRound: the law's own function answers true. Conditions: none. -/
import Derived.Test.YtnfmbjeicloemaaN16Y
namespace Go.Sx
open Go.Proofs
theorem rep_snoc {α : Type} (w : List α) : ∀ i, rep (i + 1) w = rep i w ++ w
  | 0 => by simp [rep]
  | i + 1 => by
    show w ++ rep (i + 1) w = (w ++ rep i w) ++ w
    rw [rep_snoc w i, List.append_assoc]
theorem blk_sat {h : Hp} {b : Nat} {t n : Int} {B : Option Addr} {m c : Nat} {l : Lo} (hb : h b = none) (hs : SAt h B m l) : SAt (h.put b (.cells (lcells t n B m c).toArray 58 (0, 0))) (some ⟨b, 0, none⟩) 1 (.cons t n B m c l .nil) :=
  have s := hs.mono (Hp.le_put (o := .cells (lcells t n B m c).toArray 58 (0, 0)) hb)
  ⟨rfl, .inr ⟨_, rfl, fun j v hv => by rw [add_lit, add_lit]; exact lit_cell (Hp.put_same _ _ _) (by simpa using hv), s.1, s.2, trivial⟩⟩
theorem lawQ11 (l : Lo) (A : Option Addr) (m cap : Nat) (k : Int) (h : Hp) (hs : SAt h A m l) : Fn Try.prog 11 #[.slice A m cap, iv k] h fun v h' => v = .bool true ∧ h.le h' := by
  refine Fn.intro (args := [.slice A m cap, iv k]) mix16 Try.func11 rfl (by decide) Try.ntmps11 rfl (low11 rfl) rfl ?_
  have hml := hs.1
  conv => whnf
  refine .done (.mk _ (heavy14 l A m cap h hs) ?_)
  rintro _ h1 ⟨rfl, hv, rfl, hc⟩
  cases hv with
  | true =>
    conv => whnf
    exact .done ⟨rfl, Hp.le_refl _⟩
  | false =>
  have hc0 := hc rfl
  have hc := Nat.le_trans hc0 (by decide : 65536 ≤ 200000)
  conv => whnf
  refine br_dec (fun h0 => ?_) (fun h0 => ?_)
  · conv => whnf
    exact .done ⟨rfl, Hp.le_refl _⟩
  have hlf : l.fo.leaf = false := by rw [l.leaf_len]; exact decide_eq_false (by omega)
  obtain ⟨g1, g2, g3⟩ := check_round hlf k
  conv => whnf
  refine .done (.mk _ (lent15 _ l (Nat.lt_succ_self _) hc A m cap h1 hs) ?_)
  rintro _ h2 ⟨l2, A2, c2, t2, rfl, m2, f2⟩
  have hc2 : t2.cnt ≤ 200000 := by rw [← t2.fo_cnt, f2, l.fo_cnt]; exact hc
  conv => whnf
  refine .done (.mk _ (measure20 t2 hc2 A2 m c2 h2 (m2.mono (Hp.sub_le _ _)).sat) ?_)
  rintro _ h3 ⟨l3, rfl⟩
  have l13 := Hp.le_trans l2 l3
  obtain ⟨a1, a2, a3, a4, hsa⟩ : ∃ a b c d, sizeF l.fo = sizeV a b c d := by unfold sizeF; split <;> exact ⟨_, _, _, _, rfl⟩
  rw [f2, hsa]
  conv => whnf
  refine .done (.mk _ (lent15 _ l (Nat.lt_succ_self _) hc A m cap h3 (hs.mono l13)) ?_)
  rintro _ h4 ⟨l4, A4, c4, t4, rfl, m4, f4⟩
  have m4 := (m4.mono (Hp.sub_le _ _)).sat
  have hc4 : t4.cnt ≤ 65536 := by rw [← t4.fo_cnt, f4, l.fo_cnt]; exact hc0
  conv => whnf
  refine .mk fun b5 hb5 => ?_
  have s5 := blk_sat (t := k) (n := 0) (c := c4) hb5 m4
  have l45 : h4.le (h4.put b5 (.cells (lcells k 0 A4 m c4).toArray 58 (0, 0))) := Hp.le_put hb5
  have cb : (Lo.cons k 0 A4 m c4 t4 .nil).cnt ≤ 200000 := by simp only [Lo.cnt]; omega
  have fb : ∀ c, (Lo.cons k 0 A4 m c t4 .nil).fo = .cons k 0 l.fo .nil := fun c => by simp only [Lo.fo, f4]
  conv => whnf
  refine .done (.mk _ (measure20 _ cb _ 1 1 _ s5) ?_)
  rintro _ h6_ ⟨l6, rfl⟩
  have l46 := Hp.le_trans l45 l6
  have l16 := Hp.le_trans l13 (Hp.le_trans l4 l46)
  obtain ⟨b1, b2, b3, b4, hsb⟩ : ∃ a b c d, sizeF (.cons k 0 l.fo .nil) = sizeV a b c d := by unfold sizeF; split <;> exact ⟨_, _, _, _, rfl⟩
  rw [fb, hsb]
  generalize hE : checkF l.fo = E at *
  generalize hG : checkF (.cons k 0 l.fo .nil) = G at *
  by_cases hE0 : E = 0
  rotate_left
  · -- the nest is refused
    have hG0 := g1 hE0
    obtain ⟨rfl, rfl, rfl, rfl⟩ := sizeF_no (by rw [hG]; exact hG0) hsb
    conv => whnf
    refine br_dec (fun _ => ?_) (fun q => absurd hE0 q)
    conv => whnf
    refine .done (.mk _ (awake16 _) ?_)
    rintro _ h7 ⟨rfl, l7⟩
    conv => whnf
    refine br_dec (fun _ => ?_) (fun q => absurd hG0 q)
    conv => whnf
    exact .done ⟨rfl, Hp.le_trans l16 l7⟩
  subst hE0
  obtain ⟨ea, eb, ec, ed⟩ := sizeF_ok hE hsa
  obtain ⟨hp, ht⟩ := checkF_pos hE
  have ht1 := tot_pos _ hp hlf
  conv => whnf
  refine br_dec (fun hk => ?_) (fun hk => ?_)
  · obtain rfl := g2 hk
    conv => whnf
    refine .done (.mk _ (awake16 _) ?_)
    rintro _ h7 ⟨rfl, l7⟩
    conv => whnf
    exact .done ⟨rfl, Hp.le_trans l16 l7⟩
  obtain ⟨g4, g5⟩ := g3 rfl (by omega)
  conv => whnf
  refine br_dec (fun hd => ?_) (fun hd => ?_)
  · obtain rfl := g4 (by omega)
    conv => whnf
    refine .done (.mk _ (awake16 _) ?_)
    rintro _ h7 ⟨rfl, l7⟩
    conv => whnf
    exact .done ⟨rfl, Hp.le_trans l16 l7⟩
  obtain ⟨g6, g7⟩ := g5 (by omega)
  obtain ⟨q, rfl⟩ : ∃ q : Nat, k = q := ⟨k.toNat, by omega⟩
  rw [Int.toNat_natCast] at g6 g7
  obtain ⟨D, d1, d2, d3⟩ : ∃ D : Nat, (2048 : Int).tdiv ((a4 : Nat) : Int) = (D : Int) ∧ (D < q ↔ 2048 < q * a4) ∧ D ≤ 2048 := ⟨_, div_lt (by omega)⟩
  conv => whnf
  refine br_dec (fun hd => absurd hd (by omega)) (fun _ => ?_)
  conv => whnf
  refine .mk (by omega) (.ok (by rw [d1]; omega) (by rw [d1]; omega) ?_)
  rw [d1]
  conv => whnf
  refine br_dec (fun h5 => ?_) (fun h5 => ?_)
  · obtain rfl := g6 (by rw [← ed]; exact d2.1 (by omega))
    conv => whnf
    refine .done (.mk _ (awake16 _) ?_)
    rintro _ h7 ⟨rfl, l7⟩
    conv => whnf
    refine br_dec (fun _ => ?_) (fun hh => absurd (show (1 : Int) ≤ a4 by omega) hh)
    conv => whnf
    exact .done ⟨rfl, Hp.le_trans l16 l7⟩
  have hqa : q * a4 ≤ 2048 := by
    have : ¬ (2048 < q * a4) := fun hh => absurd (d2.2 hh) (by omega)
    omega
  obtain rfl := g7 (by rw [← ed]; exact hqa)
  obtain ⟨fa, fb', fc, fd⟩ := sizeF_ok hG hsb
  simp only [firs, heads, deep, tot, hlf, cond_false, Int.toNat_natCast] at fa fb' fc fd
  have fd' : b4 = q * a4 := by rw [fd, ed]; simp
  have hflen : (flat l.fo).length = a4 := by rw [flat_len, ed]
  have xl : expF l.fo = flat l.fo := by unfold expF; rw [if_pos hE]
  have xb : expF (.cons q 0 l.fo .nil) = rep q (flat l.fo) := by
    unfold expF; rw [if_pos hG]
    simp [flat, hlf]
  have hz : (q : Int) * (a4 : Int) = ((q * a4 : Nat) : Int) := (Int.natCast_mul _ _).symm
  have c2b := heads_cnt l.fo
  rw [l.fo_cnt] at c2b
  have dle := deep_le _ _ _ (checkF_ok hE).1 (Nat.zero_le _)
  conv => whnf
  refine br_dec (fun h6 => ?_) (fun h6 => ?_)
  all_goals first
    | (rw [if_pos h6] at fb'
       conv => whnf
       refine .ok (by omega) (by omega) ?_)
    | rw [if_neg h6] at fb'
  all_goals
    conv => whnf
    refine .done (.mk _ (lent15 _ l (Nat.lt_succ_self _) hc A m cap h6_ (hs.mono l16)) ?_)
    rintro _ h7 ⟨l7, A7, c7, t7, rfl, m7, f7⟩
    have hc7 : t7.cnt ≤ 200000 := by rw [← t7.fo_cnt, f7, l.fo_cnt]; exact hc
    conv => whnf
    refine .done (.mk _ (expand22 t7 hc7 A7 m c7 h7 (m7.mono (Hp.sub_le _ _)).sat) ?_)
    rintro _ h8 ⟨l8, D, n, c, rfl, r8, fr8⟩
    rw [f7, xl] at r8
    rw [f7, hE]
    have hn := row_n r8
    have l68 := Hp.le_trans l7 l8
    conv => whnf
    refine .mk fun b9 hb9 => ?_
    have s9 := blk_sat (t := q) (n := 0) (c := c4) hb9 (m4.mono (Hp.le_trans l46 l68))
    have l89 : h8.le (h8.put b9 (.cells (lcells q 0 A4 m c4).toArray 58 (0, 0))) := Hp.le_put hb9
    conv => whnf
    refine .done (.mk _ (expand22 _ cb _ 1 1 _ s9) ?_)
    rintro _ h10 ⟨l10, D2, n2, k2, rfl, r10, fr10⟩
    rw [fb, xb] at r10
    rw [fb, hG]
    have hn2 := row_n r10
    rw [rep_len, hflen] at hn2
    have l810 := Hp.le_trans l89 l10
    have r8 := r8.mono l810
    have l110 := Hp.le_trans l16 (Hp.le_trans l68 l810)
    conv => whnf
    refine .mkS [0, 3] (Nat × Option Addr × Nat × Nat) [1, 5, 8, 9, 10, 11, 12, 13, 14, 15, 16] (fun (i, W, w, cw) => [.v (iv q), .p 0 0, .p 1 0, .v (iv 0), .v (iv b2), .v (.slice D n c), .v (iv 0), .v (.slice D2 n2 k2), .v (iv 0), .v (.slice W w cw), .v (iv i)]) (fun _ => [.own ((sizeV a1 a2 a3 a4).map .v) 31, .own ((sizeV b1 b2 b3 b4).map .v) 31])
      (fun (i, W, w, cw) h' => i ≤ q ∧ Row h10 h' W w cw (rep i (flat l.fo))) (fun (i, _, _, _) => q - i) (0, none, 0, 0) (fun _ => rfl) ⟨Nat.zero_le _, Row.nil h10⟩ ?_ rfl rfl ?_
    · show _ = [_, _, _, _, SV.v (iv ((b2 : Nat) : Int)), _, _, _, _, _, _]
      first
        | (rw [show ((b2 : Nat) : Int) = (a2 : Int) + 1 by omega]; rfl)
        | (rw [show ((b2 : Nat) : Int) = (a2 : Int) by omega]; rfl)
    rintro ⟨i, W, w, cw⟩ e h' ⟨hi, hq⟩
    refine .done ?_
    have hw := hq.n
    rw [rep_len, hflen] at hw
    conv => whnf
    refine br_dec (fun h3 => ?_) (fun h3 => ?_)
    · have hiq : i < q := by omega
      have hwb : i * a4 ≤ q * a4 := Nat.mul_le_mul_right _ (by omega)
      have r8w := r8.mono (delA_none hq.le hq.fr)
      conv => whnf
      refine .abs 3 1 W w cw _ hq.row (.done (.old 2 _ ((flat l.fo).map iv) rfl (r8w.srcn _) (numsv_one _) (by simp [maxLen]; omega) (by omega) fun W2 c2w hW2 => ?_))
      conv => whnf
      refine .ok (by omega) (by omega) ?_
      conv => whnf
      refine .pub 2 3 1 W2 (w + n) c2w _ rfl fun h11 l11 r11 f11 => .done ⟨(i + 1, W2, w + n, c2w), rfl, rfl, ⟨by omega, ?_⟩, by show q - (i + 1) < q - i; omega⟩
      rw [rep_snoc]
      exact hq.step (Hp.le_refl _) l11 r11 f11
    · obtain rfl : i = q := by omega
      conv => whnf
      refine .ok (by omega) (by omega) ?_
      conv => whnf
      refine .ok (by rw [hz]; omega) (by rw [hz]; omega) ?_
      rw [hz]
      conv => whnf
      refine .done (.mk _ (awake16 _) ?_)
      rintro _ h12 ⟨rfl, l12⟩
      conv => whnf
      refine br_intro (fun _ => ?_) (fun x => absurd x ?_)
      · conv => whnf
        refine .done (.mk _ (same24 _ _ _ _ _ _ _ _ _ (r10.mono (Hp.le_trans hq.le l12)).nums (hq.row.mono l12).nums (by omega)) ?_)
        rintro _ _ ⟨rfl, rfl⟩
        rw [decide_eq_true rfl]
        conv => whnf
        exact .done ⟨rfl, Hp.le_trans l110 (Hp.le_trans hq.le l12)⟩
      · simp [flip]
        omega
end Go.Sx
