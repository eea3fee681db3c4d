/- NestJoins: the law's own function answers true. Conditions: none. -/
import Derived.Test.YtnfmbjeicloemaaN16W
namespace Go.Sx
open Go.Proofs
def Lo.app : Lo → Lo → Lo
  | .nil, q => q
  | .cons t n B m c b r, q => .cons t n B m c b (r.app q)
theorem Lo.app_fo (q : Lo) : ∀ p : Lo, (p.app q).fo = p.fo.app q.fo
  | .nil => rfl
  | .cons _ _ _ _ _ _ r => by simp only [Lo.app, Lo.fo, Fo.app, Lo.app_fo q r]
theorem Lo.app_len (q : Lo) : ∀ p : Lo, (p.app q).len = p.len + q.len
  | .nil => by simp [Lo.app, Lo.len]
  | .cons _ _ _ _ _ _ r => by simp only [Lo.app, Lo.len, Lo.app_len q r]; omega
theorem Lo.app_cnt (q : Lo) : ∀ p : Lo, (p.app q).cnt = p.cnt + q.cnt
  | .nil => by simp [Lo.app, Lo.cnt]
  | .cons _ _ _ _ _ _ r => by simp only [Lo.app, Lo.cnt, Lo.app_cnt q r]; omega
theorem Lo.app_cl (q : Lo) : ∀ p : Lo, (p.app q).cl = p.cl ++ q.cl
  | .nil => rfl
  | .cons _ _ _ _ _ _ r => by simp only [Lo.app, Lo.cl, Lo.app_cl q r, List.cons_append]
theorem bdw_app {K : BK} {h : Hp} {q : Lo} (hq : Bdw K h q) : ∀ {p : Lo}, Bdw K h p → Bdw K h (p.app q)
  | .nil, _ => hq
  | .cons _ _ _ _ _ _ _, ⟨a, b⟩ => ⟨a, bdw_app hq b⟩
theorem mk_sk {h : Hp} : ∀ {l : Lo}, Bdw MK h l → Bdw SK h l
  | .nil, _ => trivial
  | .cons _ _ _ _ _ b _, ⟨⟨a, d⟩, e⟩ => ⟨⟨a, d.imp id fun ⟨g, q, _, r⟩ => ⟨g, q, MAt.at_ b g 0 r⟩⟩, mk_sk e⟩
theorem row_take {h : Hp} {ety size n cap : Nat} {A : Option Addr} {xs ys : List Value} (x : RowAt h ety size A (n + 1) cap (xs ++ ys)) (hx : xs.length = n * size) : RowAt h ety size A n cap xs := by
  obtain ⟨h1, h2⟩ := x
  refine ⟨hx, ?_⟩
  rcases h2 with ⟨_, q, _⟩ | ⟨g, cur, e1, e2, e3, e4, e5, e6⟩
  · omega
  · refine .inr ⟨g, cur, e1, e2, by omega, e4, e5, ?_⟩
    have := congrArg (List.take (n * size)) e6
    rw [List.take_take, Nat.min_eq_left (Nat.mul_le_mul_right _ (Nat.le_succ n)), List.take_left' hx] at this
    exact this
theorem cl_flat (p : Lo) : p.cl.flatten.length = p.len * 3 := by rw [flat_wid _ p.cl_wid, p.cl_len]
section
variable {h h1 h2 h3 : Hp} {A1 A2 A' : Option Addr} {na nb c1 c2 c' : Nat} {p1 p2 : Lo}
theorem join_row (o1 : OW (h1.sub h) A1 na c1 p1) (l2 : h1.le h2) : RowAt h2 58 3 A1 na c1 p1.cl.flatten := by
  obtain ⟨hB, q1, _⟩ := o1.ex
  exact (row_take q1 (by rw [cl_flat, o1.len])).mono (Hp.le_trans (Hp.sub_le _ _) l2)
theorem join_new (o1 : OW (h1.sub h) A1 na c1 p1) : ∀ g, A1 = some g → h g.block = none ∧ h1 g.block ≠ none := fun g e => by
  obtain ⟨hB, q1, _⟩ := o1.ex
  have := q1.mem e
  refine ⟨Hp.sub_out this, ?_⟩
  cases q : h1 g.block with
  | none => exact absurd (Hp.sub_none q) this
  | some o => simp
theorem join_off (o1 : OW (h1.sub h) A1 na c1 p1) : (h2.sub h1).le (delA h2 A1) := delA_none (Hp.sub_le _ _) fun g e => by
  cases q : h2.sub h1 g.block with
  | none => rfl
  | some o => exact absurd (Hp.sub_out (by rw [q]; simp)) (join_new o1 g e).2
theorem join_src (o1 : OW (h1.sub h) A1 na c1 p1) (o2 : OW (h2.sub h1) A2 nb c2 p2) (L : List LE) : Src L (delA h2 A1) 3 A2 nb p2.cl.flatten := by
  obtain ⟨hB, q1, _⟩ := o2.ex
  have t : Tab (delA h2 A1) 3 A2 nb p2.cl := (RowAt.tab (row_take q1 (by rw [cl_flat, o2.len])) p2.cl_wid (by decide)).mono (join_off o1)
  exact t.src L
theorem join_sat (o1 : OW (h1.sub h) A1 na c1 p1) (l2 : h1.le h2) (o2 : OW (h2.sub h1) A2 nb c2 p2) (l3 : (delA h2 A1).le h3) (hr : RowAt h3 58 3 A' (na + nb) c' (p1.cl.flatten ++ p2.cl.flatten)) : SAt h3 A' (na + nb) (p1.app p2) := by
  obtain ⟨hB1, _, r1, s1, t1⟩ := o1.ex
  obtain ⟨hB2, _, r2, s2, t2⟩ := o2.ex
  have m1 : hB1.le h3 := Hp.le_trans (delA_none (Hp.le_trans s1 (Hp.le_trans (Hp.sub_le _ _) l2)) r1) l3
  have m2 : hB2.le h3 := Hp.le_trans s2 (Hp.le_trans (join_off o1) l3)
  have row : RowAt h3 58 3 A' (na + nb) c' (p1.app p2).cl.flatten := by rw [Lo.app_cl, List.flatten_append]; exact hr
  exact Tab.sat (row.tab (p1.app p2).cl_wid (by decide)) (mk_sk (bdw_app ((ob_mk p2 hB2 t2).mono MK.mono m2) ((ob_mk p1 hB1 t1).mono MK.mono m1)))
end
theorem lawQ10 (l k : Lo) (A B : Option Addr) (m n cap cap2 : Nat) (h : Hp) (hs : SAt h A m l) (hu : SAt h B n k) : Fn Try.prog 10 #[.slice A m cap, .slice B n cap2] h fun v h' => v = .bool true ∧ h.le h' := by
  refine Fn.intro (args := [.slice A m cap, .slice B n cap2]) mix16 Try.func10 rfl (by decide) Try.ntmps10 rfl (low10 rfl) rfl ?_
  conv => whnf
  refine .done (.mk _ (heavy14 l A m cap h hs) ?_)
  rintro _ h1 ⟨rfl, hv, rfl, hc⟩
  cases hv with
  | true =>
    conv => whnf
    exact .done ⟨rfl, Hp.le_refl _⟩
  | false =>
  have hc0 := hc rfl
  have hc := Nat.le_trans hc0 (by decide : 65536 ≤ 200000)
  conv => whnf
  refine .done (.mk _ (heavy14 k B n cap2 h1 hu) ?_)
  rintro _ h1 ⟨rfl, hv, rfl, hd⟩
  cases hv with
  | true =>
    conv => whnf
    exact .done ⟨rfl, Hp.le_refl _⟩
  | false =>
  have hd0 := hd rfl
  have hd := Nat.le_trans hd0 (by decide : 65536 ≤ 200000)
  have hml := hs.1
  have hnk := hu.1
  have lm := l.len_cnt
  have kn := k.len_cnt
  obtain ⟨g1, g2, g3⟩ := check_app l.fo k.fo
  conv => whnf
  refine .done (.mk _ (lent15 _ l (Nat.lt_succ_self _) hc A m cap h1 hs) ?_)
  rintro _ h2 ⟨l2, A2, c2, t2, rfl, m2, f2⟩
  have hc2 : t2.cnt ≤ 200000 := by rw [← t2.fo_cnt, f2, l.fo_cnt]; exact hc
  conv => whnf
  refine .done (.mk _ (measure20 t2 hc2 A2 m c2 h2 (m2.mono (Hp.sub_le _ _)).sat) ?_)
  rintro _ h3 ⟨l3, rfl⟩
  have l13 := Hp.le_trans l2 l3
  obtain ⟨a1, a2, a3, a4, hsa⟩ : ∃ a b c d, sizeF l.fo = sizeV a b c d := by unfold sizeF; split <;> exact ⟨_, _, _, _, rfl⟩
  rw [f2, hsa]
  conv => whnf
  refine .done (.mk _ (lent15 _ k (Nat.lt_succ_self _) hd B n cap2 h3 (hu.mono l13)) ?_)
  rintro _ h4 ⟨l4, A4, c4, t4, rfl, m4, f4⟩
  have hc4 : t4.cnt ≤ 200000 := by rw [← t4.fo_cnt, f4, k.fo_cnt]; exact hd
  conv => whnf
  refine .done (.mk _ (measure20 t4 hc4 A4 n c4 h4 (m4.mono (Hp.sub_le _ _)).sat) ?_)
  rintro _ h5 ⟨l5, rfl⟩
  have l15 := Hp.le_trans l13 (Hp.le_trans l4 l5)
  obtain ⟨b1, b2, b3, b4, hsb⟩ : ∃ a b c d, sizeF k.fo = sizeV a b c d := by unfold sizeF; split <;> exact ⟨_, _, _, _, rfl⟩
  rw [f4, hsb]
  conv => whnf
  refine .done (.mk _ (lentX _ l (Nat.lt_succ_self _) hc A m cap h5 (hs.mono l15)) ?_)
  rintro _ h6 ⟨l6, A6, c6, p6, rfl, o6, f6⟩
  conv => whnf
  refine .done (.mk _ (lentX _ k (Nat.lt_succ_self _) hd B n cap2 h6 (hu.mono (Hp.le_trans l15 l6))) ?_)
  rintro _ h7 ⟨l7, A7, c7, p7, rfl, o7, f7⟩
  have fboth : (p6.app p7).fo = l.fo.app k.fo := by rw [Lo.app_fo, f6, f7]
  have cboth : (p6.app p7).cnt ≤ 200000 := by
    have e1 : p6.cnt = l.cnt := by rw [← p6.fo_cnt, f6, l.fo_cnt]
    have e2 : p7.cnt = k.cnt := by rw [← p7.fo_cnt, f7, k.fo_cnt]
    rw [Lo.app_cnt]; omega
  conv => whnf
  refine .abs 58 3 A6 m c6 _ (join_row o6 l7) (.done (.old 2 _ p7.cl.flatten rfl (join_src o6 o7 _) p7.cl_one (by simp [maxLen]; omega) (by omega) fun A8 c8 hA8 => ?_))
  conv => whnf
  refine .pub 2 58 3 A8 (m + n) c8 _ rfl fun h8 l8 r8 f8 => ?_
  have s8 := join_sat o6 l7 o7 l8 r8
  have l58 : h5.le h8 := Hp.le_trans (delA_none (Hp.le_trans l6 l7) fun g e => (join_new o6 g e).1) l8
  have l18 := Hp.le_trans l15 l58
  refine .done (.mk _ (measure20 (p6.app p7) cboth A8 (m + n) c8 h8 s8) ?_)
  rintro _ h9 ⟨l9, rfl⟩
  have l19 := Hp.le_trans l18 l9
  obtain ⟨d1, d2, d3, d4, hsd⟩ : ∃ a b c d, sizeF (l.fo.app k.fo) = sizeV a b c d := by unfold sizeF; split <;> exact ⟨_, _, _, _, rfl⟩
  rw [fboth, hsd]
  -- the three errors
  generalize hE : checkF l.fo = E at *
  generalize hF : checkF k.fo = F at *
  generalize hG : checkF (l.fo.app k.fo) = G at *
  by_cases hE0 : E = 0
  · by_cases hF0 : F = 0
    · subst hE0
      subst hF0
      obtain ⟨ea, eb, ec, ed⟩ := sizeF_ok hE hsa
      obtain ⟨fa, fb, fc, fd⟩ := sizeF_ok hF hsb
      obtain ⟨u1, u2⟩ := g3 rfl rfl
      have hEt := (checkF_pos hE).2
      have hFt := (checkF_pos hF).2
      by_cases ht : 2048 < tot l.fo + tot k.fo
      · obtain rfl := u1 ht
        obtain ⟨rfl, rfl, rfl, rfl⟩ := sizeF_no (by rw [hG]; decide) hsd
        conv => whnf
        refine .ok (by omega) (by omega) ?_
        conv => whnf
        refine br_dec (fun _ => ?_) (fun q => absurd (show ((2048 : Int) < (a4 : Int) + (b4 : Int)) by omega) q)
        conv => whnf
        refine .done (.mk _ (awake16 _) ?_)
        rintro _ h10 ⟨rfl, l10⟩
        conv => whnf
        exact .done ⟨rfl, Hp.le_trans l19 l10⟩
      · obtain rfl := u2 (by omega)
        obtain ⟨da, db, dc, dd⟩ := sizeF_ok hG hsd
        rw [firs_app] at da
        rw [heads_app] at db
        rw [deep_app] at dc
        rw [tot_app] at dd
        have q1 := firs_cnt l.fo
        have q2 := firs_cnt k.fo
        have q3 := heads_cnt l.fo
        have q4 := heads_cnt k.fo
        rw [l.fo_cnt] at q1 q3
        rw [k.fo_cnt] at q2 q4
        conv => whnf
        refine .ok (by omega) (by omega) ?_
        conv => whnf
        refine br_dec (fun q => absurd (show ¬ ((2048 : Int) < (a4 : Int) + (b4 : Int)) by omega) (fun w => w q)) (fun _ => ?_)
        conv => whnf
        refine .ok (by omega) (by omega) ?_
        conv => whnf
        refine .ok (by omega) (by omega) ?_
        conv => whnf
        refine .ok (by omega) (by omega) ?_
        conv => whnf
        refine .done (.mk _ (lent15 _ l (Nat.lt_succ_self _) hc A m cap h9 (hs.mono l19)) ?_)
        rintro _ h10 ⟨l10, A10, c10, t10, rfl, m10, f10⟩
        have hc10 : t10.cnt ≤ 200000 := by rw [← t10.fo_cnt, f10, l.fo_cnt]; exact hc
        conv => whnf
        refine .done (.mk _ (expand22 t10 hc10 A10 m c10 h10 (m10.mono (Hp.sub_le _ _)).sat) ?_)
        rintro _ h11 ⟨l11, D11, n11, k11, rfl, r11, fr11⟩
        rw [f10] at r11 ⊢
        rw [hE]
        have l111 := Hp.le_trans l19 (Hp.le_trans l10 l11)
        conv => whnf
        refine .done (.mk _ (lent15 _ k (Nat.lt_succ_self _) hd B n cap2 h11 (hu.mono l111)) ?_)
        rintro _ h12 ⟨l12, A12, c12, t12, rfl, m12, f12⟩
        have hc12 : t12.cnt ≤ 200000 := by rw [← t12.fo_cnt, f12, k.fo_cnt]; exact hd
        conv => whnf
        refine .done (.mk _ (expand22 t12 hc12 A12 n c12 h12 (m12.mono (Hp.sub_le _ _)).sat) ?_)
        rintro _ h13 ⟨l13', D13, n13, k13, rfl, r13, fr13⟩
        rw [f12] at r13 ⊢
        rw [hF]
        have l813 : h8.le h13 := Hp.le_trans l9 (Hp.le_trans l10 (Hp.le_trans l11 (Hp.le_trans l12 l13')))
        conv => whnf
        refine .done (.mk _ (expand22 (p6.app p7) cboth A8 (m + n) c8 h13 (s8.mono l813)) ?_)
        rintro _ h14 ⟨l14, D14, n14, k14, rfl, r14, fr14⟩
        rw [fboth] at r14 ⊢
        rw [hG]
        have l814 := Hp.le_trans l813 l14
        have l114 := Hp.le_trans l18 l814
        have x11 : expF l.fo = flat l.fo := by unfold expF; rw [if_pos hE]
        have x13 : expF k.fo = flat k.fo := by unfold expF; rw [if_pos hF]
        have x14 : expF (l.fo.app k.fo) = flat l.fo ++ flat k.fo := by unfold expF; rw [if_pos hG, flat_app]
        rw [x11] at r11
        rw [x13] at r13
        rw [x14] at r14
        have n1 := row_n r11
        have n2 := row_n r13
        have n3 := row_n r14
        rw [flat_len] at n1 n2
        rw [List.length_append, flat_len, flat_len] at n3
        have r11 := r11.mono (Hp.le_trans l12 (Hp.le_trans l13' l14))
        have r13 := r13.mono l14
        conv => whnf
        refine .done (.fresh ((flat l.fo).map iv) rfl rfl rfl (r11.srcn _) (numsv_one _) (by simp [maxLen]; omega) (by omega) fun A15 c15 hA15 => ?_)
        conv => whnf
        refine .done (.old 4 _ ((flat k.fo).map iv) rfl (r13.srcn _) (numsv_one _) (by simp [maxLen]; omega) (by omega) fun A16 c16 hA16 => ?_)
        conv => whnf
        refine .done (.mk _ (awake16 _) ?_)
        rintro _ h15 ⟨rfl, l15'⟩
        conv => whnf
        refine br_intro (fun _ => ?_) (fun q => absurd q ?_)
        · conv => whnf
          refine .pub 4 3 1 A16 (n11 + n13) c16 _ rfl fun h16 l16 r16 f16 => ?_
          rw [← List.map_append] at r16
          refine .done (.mk _ (same24 _ _ _ _ _ _ _ _ _ (r14.mono (Hp.le_trans l15' l16)).nums r16.nums (by omega)) ?_)
          rintro _ _ ⟨rfl, rfl⟩
          rw [decide_eq_true rfl]
          conv => whnf
          refine .done ⟨?_, Hp.le_trans l114 (Hp.le_trans l15' l16)⟩
          rw [decide_eq_true (show ((n11 : Nat) : Int) = a4 by omega)]
          rfl
        · simp [flip]
          omega
    · -- the second is refused
      have hG0 : G ≠ 0 := fun e => hF0 (g1 e).2
      subst hE0
      conv => whnf
      refine br_dec (fun q => absurd q hG0) (fun _ => ?_)
      conv => whnf
      refine br_dec (fun _ => ?_) (fun q => absurd hF0 q)
      conv => whnf
      refine .done (.mk _ (awake16 _) ?_)
      rintro _ h10 ⟨rfl, l10⟩
      conv => whnf
      exact .done ⟨rfl, Hp.le_trans l19 l10⟩
  · have hG0 : G ≠ 0 := fun e => hE0 (g1 e).1
    conv => whnf
    refine br_dec (fun q => absurd q hG0) (fun _ => ?_)
    conv => whnf
    refine br_dec (fun _ => ?_) (fun q => absurd hE0 q)
    conv => whnf
    refine br_dec (fun h5 => ?_) (fun h5 => ?_)
    · have hGE : G = E := g2 hE0 h5
      conv => whnf
      refine br_dec (fun q => absurd hGE q) (fun _ => ?_)
      conv => whnf
      refine br_dec (fun _ => ?_) (fun q => absurd hE0 q)
      conv => whnf
      refine .done (.mk _ (awake16 _) ?_)
      rintro _ h10 ⟨rfl, l10⟩
      conv => whnf
      exact .done ⟨rfl, Hp.le_trans l19 l10⟩
    · conv => whnf
      refine br_dec (fun _ => ?_) (fun q => absurd hE0 q)
      conv => whnf
      refine .done (.mk _ (awake16 _) ?_)
      rintro _ h10 ⟨rfl, l10⟩
      conv => whnf
      exact .done ⟨rfl, Hp.le_trans l19 l10⟩
end Go.Sx
