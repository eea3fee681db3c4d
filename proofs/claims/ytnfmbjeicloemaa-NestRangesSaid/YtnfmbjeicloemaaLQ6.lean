/- NestRanges: the law's own function answers true. Conditions: none. -/
import Derived.Test.YtnfmbjeicloemaaN16AB
namespace Go.Sx
open Go.Proofs
theorem sat_nil (h : Hp) : SAt h none 0 .nil := ⟨rfl, .inl rfl⟩
theorem UB.le {l : Lo} : ∀ {X : Hp}, UB X l → ∀ s ∈ bods l, s.2.1 ≤ l.cnt := by
  induction l with
  | nil => intro X _ s hs; cases hs
  | cons t n B m c b r ihb ihr =>
    rintro X ⟨X1, X2, a1, a2, _, ⟨hm, hb⟩, hr⟩ s hs
    have hbl := b.len_cnt
    simp only [bods] at hs
    simp only [Lo.cnt]
    rcases List.mem_append.1 hs with hs | hs
    · split at hs
      · cases hs
      · rcases List.mem_append.1 hs with hs | hs
        · rcases hb with hb | ⟨hB, _, _, _, hb⟩
          · subst hb; cases hs
          · have := ihb hb s hs; omega
        · rw [List.mem_singleton.1 hs]; show m ≤ _; omega
    · have := ihr hr s hs; omega
theorem UW.le {X : Hp} {A : Option Addr} {m c : Nat} {l : Lo} (s : UW X A m c l) : ∀ x ∈ colL A m c l, x.2.1 ≤ l.cnt := by
  intro x hx
  obtain ⟨hB, _, _, _, h4⟩ := s.ex
  rcases List.mem_append.1 hx with hx | hx
  · exact h4.le x hx
  · rw [List.mem_singleton.1 hx]; have := s.len; have := l.len_cnt; show m ≤ _; omega
theorem Hp.le_minus {a h Y : Hp} (x : a.le h) (d : ∀ j, Y j ≠ none → a j = none) : a.le (h.minus Y) := fun j o e => by
  unfold Hp.minus
  cases q : Y j with
  | none => exact x j o e
  | some o' => rw [d j (by rw [q]; simp)] at e; cases e
theorem Hp.minus_dis {h Y : Hp} : ∀ j, Y j ≠ none → h.minus Y j = none := fun j hj => Hp.minus_in hj
theorem Hp.minus_le (h Y : Hp) : (h.minus Y).le h := fun j o e => (Hp.minus_some e).2
abbrev cellH (h : Hp) (b : Nat) (v : Value) (ty : Nat) : Hp := h.put b (.cells [v].toArray ty (0, 0))
theorem Lst.le {h1 h' : Hp} {b : Nat} {pre : List Int} (x : Lst h1 b pre h') : h1.le h' := by obtain ⟨_, _, _, _, q, _⟩ := x; exact q
theorem cell_val {h : Hp} {b ty : Nat} {v : Value} (q : h b = some (.cells [v].toArray ty (0, 0))) : h.cell? ⟨b, 0, none⟩ = some v := by
  unfold Hp.cell?; simp [q]
theorem Tab.nums_take {h : Hp} {k : Nat} {B : Option Addr} {xs : List Int} (t : Tab h 1 B k (((xs.map fun z => [iv z]).drop 0).take k)) : Tab h 1 B k ((xs.take k).map fun z => [iv z]) := by
  rw [List.drop_zero, ← List.map_take] at t; exact t
set_option maxRecDepth 100000 in
theorem lawQ6 (l : Lo) (A : Option Addr) (m cap : Nat) (stop : Int) (h : Hp) (hs : SAt h A m l) : Fn Try.prog 6 #[.slice A m cap, iv stop] h fun v h' => v = .bool true ∧ h.le h' := by
  refine FnY.intro (args := [.slice A m cap, iv stop]) Try.func6 rfl (by decide) Try.ntmps6 rfl (low6 rfl) rfl ?_
  conv => whnf
  refine .done (.mk _ (heavy14 l A m cap h hs) ?_)
  rintro _ h1 ⟨rfl, hv, rfl, hc⟩
  cases hv with
  | true =>
    conv => whnf
    exact .done ⟨rfl, Hp.le_refl _⟩
  | false =>
    have hc := Nat.le_trans (hc rfl) (by decide : 65536 ≤ 200000)
    have hlen := expF_len l.fo
    conv => whnf
    refine .done (.mk _ (awake16 _) ?_)
    rintro _ h2 ⟨rfl, l2⟩
    conv => whnf
    refine .done (.mk _ (lentX _ l (Nat.lt_succ_self _) hc A m cap h2 (hs.mono l2)) ?_)
    rintro _ h3 ⟨l3, A2, c2, t2, rfl, m2, f2⟩
    have hc2 : t2.cnt ≤ 200000 := by rw [← t2.fo_cnt, f2, l.fo_cnt]; exact hc
    have l13 := Hp.le_trans l2 l3
    conv => whnf
    refine .done (.mk _ (expand23 l hc A m cap h3 (hs.mono l13)) ?_)
    rintro _ h4 ⟨F, j, f, rfl, r4⟩
    have hj := r4.n
    conv => whnf
    refine .done (.mk _ (all26 t2 hc2 A2 m c2 h4 (m2.mono (Hp.le_trans (Hp.sub_le _ _) r4.le)).smt.sat) ?_)
    rintro _ h5 ⟨l5, g, trail, T, rfl, hIt, hTm, hT⟩
    rw [f2] at hIt
    have l35 := Hp.le_trans r4.le l5
    conv => whnf
    refine .done (.mk _ (kept19 _ l (Nat.lt_succ_self _) hc t2 A2 A m c2 cap h5 f2 (m2.mono (Hp.le_trans (Hp.sub_le _ _) l35)).smt (hs.mono (Hp.le_trans l13 l35))) ?_)
    rintro _ h6 ⟨rfl, rfl⟩
    have uw := m2.uw
    conv => whnf
    refine .done (.mk _ (apart27 (B := h6.minus (h3.sub h2)) (Y := h3.sub h2) (ca := c2) (cb := 0) hc2 (by decide) (m2.mono (Hp.le_trans (Hp.sub_le _ _) l35)).smt.sat (sat_nil _) (Sep.app (h2 := fun _ => none) (fun _ _ => rfl) (Hp.le_refl _) (fun _ _ e => by cases e) (sep_nil _) uw.sep) (fun s hs => ?_) (Hp.le_trans (Hp.sub_le _ _) l35) (Hp.minus_le _ _) Hp.minus_dis) ?_)
    · rcases List.mem_append.1 hs with hs | hs
      · exact Nat.le_trans (uw.le s hs) hc2
      · rw [List.mem_singleton.1 hs]; exact Nat.zero_le _
    rintro _ h7 ⟨rfl, l7⟩
    have hYh2 : ∀ j, h3.sub h2 j ≠ none → h2 j = none := fun j hj => Hp.sub_out hj
    have l27 : h2.le h7 := Hp.le_trans (Hp.le_minus (Hp.le_trans l3 l35) hYh2) l7
    have hYh3 : ∀ j, h3.sub h2 j ≠ none → h3 j ≠ none := fun j hj q => hj (le_none (Hp.sub_le h3 h2) q)
    have hT7 : T h7 := hTm _ _ (Hp.le_trans (Hp.le_minus (Hp.sub_le h6 h4) fun j hj => by
      cases q : h6.sub h4 j with
      | none => rfl
      | some o => exact absurd (Hp.none_le r4.le (Hp.sub_out (by rw [q]; simp))) (hYh3 j hj)) l7) hT
    have r7 : RowAt h7 3 1 F j f ((expF l.fo).map iv) := (row_sub r4.row r4.fr).mono (Hp.le_trans (Hp.le_minus (Hp.le_trans (Hp.sub_le _ _) l5) fun j hj => by
      cases q : h4.sub h3 j with
      | none => rfl
      | some o => exact absurd (Hp.sub_out (by rw [q]; simp)) (hYh3 j hj)) l7)
    obtain ⟨xs, hxs⟩ : ∃ xs, xs = expF l.fo := ⟨_, rfl⟩
    rw [← hxs] at hIt r7 hlen hj
    clear hT l7 uw hYh2 hYh3 l35 r4 m2 l13 l5 l3 hxs
    conv => whnf
    refine .mk [6, 9] ?_
    conv => whnf
    refine .mk fun b6 hb6 => ?_
    conv => whnf
    refine .mk fun b9 hb9 => ?_
    conv => whnf
    refine .done (.mk T xs (Lst (cellH h7 b6 (.slice F j f) 35) b9) (fun _ _ _ => False) hIt hTm rfl (Lst.nil hb9) ?_ ?_ ?_ ?_)
    · intro pre h' q
      exact hTm _ _ (Hp.le_trans (Hp.le_put hb6) q.le) hT7
    · rintro e0 pre x h' ⟨D, n, c, hb, q1, q2, q3, q4⟩ hpx
      have hnl := row_n q3
      have hpl := pre_len hpx hlen
      have hpx2 := hpx.length_le
      simp only [List.length_append, List.length_singleton] at hpx2
      conv => whnf
      refine .hp _ (lst_cell q2) ?_
      conv => whnf
      refine .abs 3 1 D n c _ q3 (.done (.old 1 _ [iv x] rfl rfl (numsv_one [x]) (by simp [maxLen]; omega) (by omega) fun D2 c2 hD2 => ?_))
      conv => whnf
      refine .hp b9 0 35 [.slice D n c] [.slice D2 (n + 1) c2] rfl (lst_del q2 q3) rfl ?_
      conv => whnf
      refine .hp (.slice D2 (n + 1) c2) (cell_val (Hp.put_same _ _ _)) ?_
      conv => whnf
      have hne : b6 ≠ b9 := fun q => by rw [← q, Hp.put_same] at hb9; cases hb9
      have hc6 : (delA h' D).put b9 (.cells [Value.slice D2 (n + 1) c2].toArray 35 (0, 0)) b6 = some (.cells [Value.slice F j f].toArray 35 (0, 0)) := by
        rw [Hp.put_ne _ _ hne]
        exact delA_none q1 q4 _ _ (Hp.put_same _ _ _)
      refine .hp (.slice F j f) (cell_val hc6) ?_
      conv => whnf
      refine br_dec (fun u => ?_) (fun u => ?_)
      · omega
      conv => whnf
      exact .pub 1 3 1 D2 (n + 1) c2 _ rfl fun h4 l4 hro hf => .done (Lst.step hb q1 q4 l4 hro hf)
    · intro h8 q8
      have hT8 : T h8 := hTm _ _ (Hp.le_trans (Hp.le_put hb6) q8.le) hT7
      conv => whnf
      refine .mk [3, 10] ?_
      conv => whnf
      refine .mk fun b3 hb3 => ?_
      conv => whnf
      refine .mk fun b10 hb10 => ?_
      conv => whnf
      have b3n : (cellH h8 b3 (iv stop) 3) b3 = some (.cells [iv stop].toArray 3 (0, 0)) := Hp.put_same _ _ _
      have l8 : h8.le (cellH h8 b3 (iv stop) 3) := Hp.le_put hb3
      refine (fun (key : ∀ h', Lst (cellH h8 b3 (iv stop) 3) b10 (xs.take stop.toNat) h' → _) => .done (.mk T xs (fun pre h' => Lst (cellH h8 b3 (iv stop) 3) b10 pre h' ∧ pre.length ≤ stop.toNat)
          (fun ex p h' => ex = .exit 2 ∧ ∃ pre x, p = pre ++ [x] ∧ Lst (cellH h8 b3 (iv stop) 3) b10 pre h' ∧ pre.length = stop.toNat) hIt hTm rfl ⟨Lst.nil hb10, Nat.zero_le _⟩ ?_ ?_
          (fun h' hj => key h' (by rw [List.take_of_length_le hj.2]; exact hj.1)) (fun ex p h' hp hj => by
            obtain ⟨rfl, pre, x, rfl, q, hl⟩ := hj
            refine key h' ?_
            obtain ⟨r, rfl⟩ := hp
            rw [← hl, List.append_assoc, List.take_left]
            exact q))) ?_
      · intro h9 q9
        have l89 := Hp.le_trans l8 q9.le
        have hT9 : T h9 := hTm _ _ l89 hT8
        have l79 : h7.le h9 := Hp.le_trans (Hp.le_trans (Hp.le_put hb6) q8.le) l89
        have c6 : h9 b6 = some (.cells [Value.slice F j f].toArray 35 (0, 0)) := l89 _ _ (q8.le _ _ (Hp.put_same _ _ _))
        conv => whnf
        refine .mk [6, 11] ?_
        conv => whnf
        refine .mk fun b11 hb11 => ?_
        conv => whnf
        refine .done (.mk T xs (Lst h9 b11) (fun _ _ _ => False) hIt hTm rfl (Lst.nil hb11) ?_ ?_ ?_ ?_)
        · intro pre h' q
          exact hTm _ _ q.le hT9
        · rintro e0 pre x h' ⟨D, n, c, hb, q1, q2, q3, q4⟩ hpx
          have hnl := row_n q3
          have hpl := pre_len hpx hlen
          have hpx2 := hpx.length_le
          simp only [List.length_append, List.length_singleton] at hpx2
          conv => whnf
          refine .hp _ (lst_cell q2) ?_
          conv => whnf
          refine .abs 3 1 D n c _ q3 (.done (.old 1 _ [iv x] rfl rfl (numsv_one [x]) (by simp [maxLen]; omega) (by omega) fun D2 c2 hD2 => ?_))
          conv => whnf
          refine .hp b11 0 35 [.slice D n c] [.slice D2 (n + 1) c2] rfl (lst_del q2 q3) rfl ?_
          conv => whnf
          refine .hp (.slice D2 (n + 1) c2) (cell_val (Hp.put_same _ _ _)) ?_
          conv => whnf
          have hne : b6 ≠ b11 := fun q => by rw [← q, c6] at hb11; cases hb11
          have hc6 : (delA h' D).put b11 (.cells [Value.slice D2 (n + 1) c2].toArray 35 (0, 0)) b6 = some (.cells [Value.slice F j f].toArray 35 (0, 0)) := by
            rw [Hp.put_ne _ _ hne]
            exact delA_none q1 q4 _ _ c6
          refine .hp (.slice F j f) (cell_val hc6) ?_
          conv => whnf
          refine br_dec (fun u => ?_) (fun u => ?_)
          · omega
          conv => whnf
          exact .pub 1 3 1 D2 (n + 1) c2 _ rfl fun h4 l4 hro hf => .done (Lst.step hb q1 q4 l4 hro hf)
        · intro h10 q10
          have l10 := q10.le
          have ca : h10.cell? ⟨b6, 0, none⟩ = some (.slice F j f) := cell_val (l10 _ _ c6)
          have cs : h10.cell? ⟨b3, 0, none⟩ = some (iv stop) := cell_val (l10 _ _ (q9.le _ _ b3n))
          conv => whnf
          refine .hp _ ca ?_
          conv => whnf
          refine .hp _ cs ?_
          conv => whnf
          refine .hp _ ca ?_
          conv => whnf
          refine br_dec (fun u => ?_) (fun u => ?_)
          · conv => whnf
            refine .hp _ ca ?_
            conv => whnf
            refine .hp _ cs ?_
            conv => whnf
            refine .mk 0 stop.toNat rfl (by omega) (Nat.zero_le _) (by have := r7.2; rcases this with ⟨_, q, _⟩ | ⟨_, _, _, _, q, _⟩ <;> omega) fun B hB1 _ => ?_
            conv => whnf
            refine .done (.mk _ (awake16 _) ?_)
            rintro _ h11 ⟨rfl, l11⟩
            have l7 := Hp.le_trans (Hp.le_trans l79 l10) l11
            have ca := Hp.cell_le l11 ca
            obtain ⟨D9, n9, k9, _, _, p9, w9, _⟩ := q8
            obtain ⟨D10, n10, k10, _, _, p10, w10, _⟩ := q9
            obtain ⟨D11, n11, k11, _, _, p11, w11, _⟩ := q10
            have l9 := Hp.le_trans (Hp.le_trans l89 l10) l11
            have la := Hp.le_trans l10 l11
            conv => whnf
            refine .hp _ (lst_cell (l9 _ _ p9)) ?_
            conv => whnf
            refine .hp _ ca ?_
            conv => whnf
            refine .done (.mk _ (same24 _ _ _ _ _ _ _ _ _ (w9.mono l9).nums (r7.mono l7).nums (by have := row_n w9; omega)) ?_)
            rintro _ _ ⟨rfl, rfl⟩
            rw [decide_eq_true rfl]
            conv => whnf
            refine .hp _ (lst_cell (la _ _ p10)) ?_
            conv => whnf
            refine .done (.mk _ (same24 _ _ _ _ _ _ _ _ _ (w10.mono la).nums (((r7.mono l7).nums.drop (k := 0) (B := B) (fun q => by rw [hB1 (by have := r7.2; rcases this with ⟨_, q, _⟩ | ⟨_, _, _, _, q, _⟩ <;> omega)]) (Nat.zero_le _)).take (k := stop.toNat) (by omega)).nums_take (by have := row_n w10; simp only [List.length_take] at this; omega)) ?_)
            rintro _ _ ⟨rfl, rfl⟩
            rw [decide_eq_true rfl]
            conv => whnf
            refine .hp _ (lst_cell (l11 _ _ p11)) ?_
            conv => whnf
            refine .hp _ ca ?_
            conv => whnf
            refine .done (.mk _ (same24 _ _ _ _ _ _ _ _ _ (w11.mono l11).nums (r7.mono l7).nums (by have := row_n w11; omega)) ?_)
            rintro _ _ ⟨rfl, rfl⟩
            rw [decide_eq_true rfl]
            conv => whnf
            exact .done ⟨rfl, Hp.le_trans l2 (Hp.le_trans l27 l7)⟩
          · skip
            conv => whnf
            refine .done (.mk _ (awake16 _) ?_)
            rintro _ h11 ⟨rfl, l11⟩
            have l7 := Hp.le_trans (Hp.le_trans l79 l10) l11
            have ca := Hp.cell_le l11 ca
            obtain ⟨D9, n9, k9, _, _, p9, w9, _⟩ := q8
            obtain ⟨D10, n10, k10, _, _, p10, w10, _⟩ := q9
            obtain ⟨D11, n11, k11, _, _, p11, w11, _⟩ := q10
            have l9 := Hp.le_trans (Hp.le_trans l89 l10) l11
            have la := Hp.le_trans l10 l11
            conv => whnf
            refine .hp _ (lst_cell (l9 _ _ p9)) ?_
            conv => whnf
            refine .hp _ ca ?_
            conv => whnf
            refine .done (.mk _ (same24 _ _ _ _ _ _ _ _ _ (w9.mono l9).nums (r7.mono l7).nums (by have := row_n w9; omega)) ?_)
            rintro _ _ ⟨rfl, rfl⟩
            rw [decide_eq_true rfl]
            conv => whnf
            refine .hp _ (lst_cell (la _ _ p10)) ?_
            conv => whnf
            refine .done (.mk _ (same24 _ _ _ _ _ _ _ _ _ (w10.mono la).nums (r7.mono l7).nums (by have := row_n w10; simp only [List.length_take] at this; omega)) ?_)
            rintro _ _ ⟨rfl, rfl⟩
            rw [decide_eq_true (List.take_of_length_le (by omega))]
            conv => whnf
            refine .hp _ (lst_cell (l11 _ _ p11)) ?_
            conv => whnf
            refine .hp _ ca ?_
            conv => whnf
            refine .done (.mk _ (same24 _ _ _ _ _ _ _ _ _ (w11.mono l11).nums (r7.mono l7).nums (by have := row_n w11; omega)) ?_)
            rintro _ _ ⟨rfl, rfl⟩
            rw [decide_eq_true rfl]
            conv => whnf
            exact .done ⟨rfl, Hp.le_trans l2 (Hp.le_trans l27 l7)⟩
        · exact fun _ _ _ _ e => e.elim
      · intro pre h' q
        exact hTm _ _ (Hp.le_trans l8 q.1.le) hT8
      · rintro e0 pre x h' ⟨⟨D, n, c, hb, q1, q2, q3, q4⟩, hps⟩ hpx
        have hnl := row_n q3
        have hpl := pre_len hpx hlen
        conv => whnf
        refine .hp _ (lst_cell q2) ?_
        conv => whnf
        refine .hp (iv stop) (cell_val (q1 _ _ b3n)) ?_
        conv => whnf
        refine br_dec (fun u => ?_) (fun u => ?_)
        · conv => whnf
          exact .done ⟨rfl, pre, x, rfl, ⟨D, n, c, hb, q1, q2, q3, q4⟩, by omega⟩
        · conv => whnf
          refine .hp _ (lst_cell q2) ?_
          conv => whnf
          refine .abs 3 1 D n c _ q3 (.done (.old 1 _ [iv x] rfl rfl (numsv_one [x]) (by simp [maxLen]; omega) (by omega) fun D2 c2 hD2 => ?_))
          conv => whnf
          refine .hp b10 0 35 [.slice D n c] [.slice D2 (n + 1) c2] rfl (lst_del q2 q3) rfl ?_
          conv => whnf
          exact .pub 1 3 1 D2 (n + 1) c2 _ rfl fun h4 l4 hro hf => .done ⟨Lst.step hb q1 q4 l4 hro hf, by simp only [List.length_append, List.length_singleton]; omega⟩
    · exact fun _ _ _ _ e => e.elim
end Go.Sx
