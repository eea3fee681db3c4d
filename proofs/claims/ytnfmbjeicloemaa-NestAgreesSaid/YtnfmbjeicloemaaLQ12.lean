/- NestAgrees: the law's own function answers true. Conditions: none. -/
import Derived.Test.YtnfmbjeicloemaaN16V
namespace Go.Sx
open Go.Proofs
/-- the walk beside a list, under way -/
structure Ag (hB : Hp) (b6 b8 b9 : Nat) (D : Option Addr) (n c : Nat) (pre : List Int) (h' : Hp) : Prop where
  le : hB.le h'
  c6 : h' b6 = some (.cells [Value.slice D n c].toArray 35 (0, 0))
  c8 : h' b8 = some (.cells [iv (pre.length : Nat)].toArray 3 (0, 0))
  c9 : h' b9 = some (.cells [Value.bool true].toArray 4 (0, 0))
theorem put_none_ {h : Hp} {b j : Nat} {o : Obj} (hj : h.put b o j = none) : j ≠ b ∧ h j = none := by
  by_cases e : j = b
  · subst e; rw [Hp.put_same] at hj; cases hj
  · exact ⟨e, by rw [Hp.put_ne _ _ e] at hj; exact hj⟩
theorem cell0 {h : Hp} {b ty : Nat} {v : Value} (hb : h b = some (.cells [v].toArray ty (0, 0))) : h.cell? ⟨b, 0, none⟩ = some v := lit_cell hb rfl
theorem le_put2 {hB h : Hp} {b : Nat} {o : Obj} (hle : hB.le h) (hb : hB b = none) : hB.le (h.put b o) := fun j o' e => by
  rw [Hp.put_ne _ _ (fun q => by rw [q, hb] at e; cases e)]; exact hle j o' e
theorem pre_at {pre xs : List Int} {x : Int} (h : pre ++ [x] <+: xs) : ∃ hl : pre.length < xs.length, xs[pre.length] = x := by
  obtain ⟨r, rfl⟩ := h
  exact ⟨by simp, by simp⟩
theorem firs_tot : ∀ f : Fo, Pos f → firs f ≤ tot f
  | .nil, _ => Nat.le_refl _
  | .cons t n b r, ⟨h1, h2, h3⟩ => by
    have i2 := firs_tot r h3
    have i1 := firs_tot b h2
    have hi := ins_pos h2
    have q2 : 1 * ins b ≤ t.toNat * ins b := Nat.mul_le_mul_right _ (by omega)
    rw [tot_cons]
    simp only [firs]
    unfold ins at *
    cases hl : b.leaf <;> simp only [hl, cond_true, cond_false] at * <;> omega
theorem deep_le : ∀ (f : Fo) (d k : Nat), (findF f d k).1 = 0 → d ≤ 16 → d + deep f ≤ 16
  | .nil, _, _, _, hd => by simp only [deep]; omega
  | .cons t n b r, d, k, h, hd => by
    simp only [findF] at h
    split at h
    · rename_i h1
      have i2 := deep_le r d _ h hd
      simp only [deep]
      cases hl : b.leaf with
      | true => simp only [cond_true]; omega
      | false =>
        simp only [cond_false]
        have : d + 1 + deep b ≤ 16 := by
          rw [hl] at h1
          unfold oneF at h1
          repeat' split at h1
          all_goals first | (simp at h1; done) | skip
          · contradiction
          · rename_i hx _ _ _
            exact deep_le b (d + 1) k h1 (by simp at hx; omega)
        omega
    · rename_i h1; exact absurd h h1
theorem tot_zero {f : Fo} (h : Pos f) : (f.len = 0) ↔ (tot f = 0) := by
  cases f with
  | nil => exact ⟨fun _ => rfl, fun _ => rfl⟩
  | cons t n b r =>
    have := tot_pos _ h rfl
    exact ⟨fun e => by simp [Fo.len] at e, fun e => by omega⟩
theorem size_inj {a b c d a' b' c' d' : Nat} (h : sizeV a b c d = sizeV a' b' c' d') : a = a' ∧ b = b' ∧ c = c' ∧ d = d' := by
  simp only [sizeV, iv, List.cons.injEq, Value.int.injEq, true_and, and_true] at h
  omega
theorem lawQ12 (l : Lo) (A : Option Addr) (m cap : Nat) (h : Hp) (hs : SAt h A m l) : Fn Try.prog 12 #[.slice A m cap] h fun v h' => v = .bool true ∧ h.le h' := by
  refine FnY.intro (args := [.slice A m cap]) Try.func12 rfl (by decide) Try.ntmps12 rfl (low12 rfl) rfl ?_
  conv => whnf
  refine .done (.mk _ (heavy14 l A m cap h hs) ?_)
  rintro _ h1 ⟨rfl, hv, rfl, hc⟩
  cases hv with
  | true =>
    conv => whnf
    exact .done ⟨rfl, Hp.le_refl _⟩
  | false =>
    have hc := hc rfl
    have hlen := expF_len l.fo
    conv => whnf
    refine .done (.mk _ (awake16 _) ?_)
    rintro _ h2 ⟨rfl, l2⟩
    conv => whnf
    refine .done (.mk _ (lent15 _ l (Nat.lt_succ_self _) hc A m cap h2 (hs.mono l2)) ?_)
    rintro _ h3 ⟨l3, A3, c3, t3, rfl, m3, f3⟩
    have hc3 : t3.cnt ≤ 65536 := by rw [← t3.fo_cnt, f3, l.fo_cnt]; exact hc
    conv => whnf
    refine .done (.mk _ (check17 t3 hc3 A3 m c3 h3 (m3.mono (Hp.sub_le _ _)).sat) ?_)
    rintro _ h4 ⟨l4, rfl⟩
    rw [f3]
    have l14 := Hp.le_trans l2 (Hp.le_trans l3 l4)
    conv => whnf
    refine .done (.mk _ (lent15 _ l (Nat.lt_succ_self _) hc A m cap h4 (hs.mono l14)) ?_)
    rintro _ h5 ⟨l5, A5, c5, t5, rfl, m5, f5⟩
    have hc5 : t5.cnt ≤ 65536 := by rw [← t5.fo_cnt, f5, l.fo_cnt]; exact hc
    obtain ⟨a, b, cc, d, hsz⟩ : ∃ a b c d, sizeF l.fo = sizeV a b c d := by unfold sizeF; split <;> exact ⟨_, _, _, _, rfl⟩
    conv => whnf
    refine .done (.mk _ (measure20 t5 hc5 A5 m c5 h5 (m5.mono (Hp.sub_le _ _)).sat) ?_)
    rintro _ h6 ⟨l6, rfl⟩
    rw [f5, hsz]
    have l16 := Hp.le_trans l14 (Hp.le_trans l5 l6)
    conv => whnf
    refine .done (.mk _ (lent15 _ l (Nat.lt_succ_self _) hc A m cap h6 (hs.mono l16)) ?_)
    rintro _ h7 ⟨l7, A7, c7, t7, rfl, m7, f7⟩
    have hc7 : t7.cnt ≤ 65536 := by rw [← t7.fo_cnt, f7, l.fo_cnt]; exact hc
    conv => whnf
    refine .done (.mk _ (expand22 t7 hc7 A7 m c7 h7 (m7.mono (Hp.sub_le _ _)).sat) ?_)
    rintro _ h8 ⟨l8, D, n, c, rfl, r8, fr8⟩
    rw [f7] at r8 ⊢
    have hn := row_n r8
    have l18 := Hp.le_trans l16 (Hp.le_trans l7 l8)
    conv => whnf
    refine .done (.mk _ (lent15 _ l (Nat.lt_succ_self _) hc A m cap h8 (hs.mono l18)) ?_)
    rintro _ h9 ⟨l9, A9, c9, t9, rfl, m9, f9⟩
    have hc9 : t9.cnt ≤ 65536 := by rw [← t9.fo_cnt, f9, l.fo_cnt]; exact hc
    conv => whnf
    refine .done (.mk _ (all26 t9 hc9 A9 m c9 h9 (m9.mono (Hp.sub_le _ _)).sat) ?_)
    rintro _ hB ⟨l10, g, trail, T, rfl, hIt, hTm, hT⟩
    rw [f9] at hIt
    have r10 := r8.mono (Hp.le_trans l9 l10)
    have l1B := Hp.le_trans l18 (Hp.le_trans l9 l10)
    conv => whnf
    refine .mk [6, 8, 9] ?_
    conv => whnf
    refine .mk fun b6 hb6 => ?_
    conv => whnf
    refine .mk fun b8 hb8 => ?_
    conv => whnf
    refine .mk fun b9 hb9 => ?_
    obtain ⟨n68, hb8⟩ := put_none_ hb8
    obtain ⟨n89, hb9⟩ := put_none_ hb9
    obtain ⟨n69, hb9⟩ := put_none_ hb9
    refine .done (.mk T (expF l.fo) (Ag hB b6 b8 b9 D n c) (fun _ _ _ => False) hIt hTm rfl ?_ ?_ ?_ ?_ ?_)
    · refine ⟨le_put2 (le_put2 (le_put2 (Hp.le_refl _) hb6) hb8) hb9, ?_, ?_, Hp.put_same _ _ _⟩
      · rw [Hp.put_ne _ _ (Ne.symm n69), Hp.put_ne _ _ (Ne.symm n68)]; exact Hp.put_same _ _ _
      · rw [Hp.put_ne _ _ (Ne.symm n89)]; exact Hp.put_same _ _ _
    · exact fun pre h' j => hTm _ _ (Hp.le_trans (Hp.sub_le _ _) j.le) hT
    · rintro e0 pre x h' ⟨q1, q6, q8, q9⟩ hpx
      have hpl := pre_len hpx hlen
      obtain ⟨hpn, hx⟩ := pre_at hpx
      obtain ⟨gD, hgD⟩ := r10.nums.ad (by omega)
      conv => whnf
      refine .hp _ (cell0 q9) ?_
      conv => whnf
      refine .hp _ (cell0 q8) ?_
      conv => whnf
      refine .hp _ (cell0 q6) ?_
      conv => whnf
      refine br_dec (fun _ => ?_) (fun q => absurd (show ((pre.length : Nat) : Int) < n by omega) q)
      conv => whnf
      refine .hp _ (cell0 q6) ?_
      conv => whnf
      refine .hp _ (cell0 q8) ?_
      conv => whnf
      refine .mk gD hgD (by omega) (by omega) ?_
      conv => whnf
      refine .hp (iv (expF l.fo)[pre.length]) (by rw [Int.toNat_natCast]; exact (r10.nums.mono q1).one hgD (map_get hpn) rfl) ?_
      rw [hx]
      conv => whnf
      refine .hp b9 0 4 [.bool true] [.bool true] rfl q9 (by rw [decide_eq_true rfl]; rfl) ?_
      have k8 : (h'.put b9 (.cells [Value.bool true].toArray 4 (0, 0))) b8 = some (.cells [iv (pre.length : Nat)].toArray 3 (0, 0)) := by rw [Hp.put_ne _ _ (Ne.symm n89)]; exact q8
      conv => whnf
      refine .hp _ (cell0 k8) ?_
      conv => whnf
      refine .ok (by omega) (by omega) ?_
      conv => whnf
      refine .hp b8 0 3 [iv (pre.length : Nat)] [iv ((pre.length : Nat) + 1 : Int)] rfl k8 rfl ?_
      have k9 : ((h'.put b9 (.cells [Value.bool true].toArray 4 (0, 0))).put b8 (.cells [iv ((pre.length : Nat) + 1 : Int)].toArray 3 (0, 0))) b9 = some (.cells [Value.bool true].toArray 4 (0, 0)) := by rw [Hp.put_ne _ _ n89]; exact Hp.put_same _ _ _
      conv => whnf
      refine .hp _ (cell0 k9) ?_
      conv => whnf
      refine .done ⟨le_put2 (le_put2 q1 hb9) hb8, ?_, ?_, k9⟩
      · rw [Hp.put_ne _ _ (Ne.symm n68), Hp.put_ne _ _ (Ne.symm n69)]; exact q6
      · rw [Hp.put_same, List.length_append]; rfl
    · rintro h' ⟨q1, q6, q8, q9⟩
      have l1' := Hp.le_trans l1B q1
      rw [← hn] at q8
      have hml := hs.1
      conv => whnf
      refine br_dec (fun q => absurd rfl q) (fun _ => ?_)
      conv => whnf
      refine br_dec (fun q => absurd rfl q) (fun _ => ?_)
      conv => whnf
      refine .hp _ (cell0 q9) ?_
      conv => whnf
      refine .hp _ (cell0 q8) ?_
      conv => whnf
      refine .hp _ (cell0 q6) ?_
      conv => whnf
      refine br_dec (fun q => absurd rfl q) (fun _ => ?_)
      conv => whnf
      refine br_dec (fun h0 => ?_) (fun h0 => ?_)
      · conv => whnf
        refine .done (.mk _ (awake16 _) ?_)
        rintro _ h11 ⟨rfl, l11⟩
        have hz : sizeF l.fo = sizeV 0 0 0 0 := by unfold sizeF; rw [if_neg h0]
        obtain ⟨rfl, rfl, rfl, rfl⟩ := size_inj (hsz.symm.trans hz)
        conv => whnf
        exact .done ⟨rfl, Hp.le_trans l1' l11⟩
      · have h0 : checkF l.fo = 0 := Decidable.of_not_not h0
        have hz : sizeF l.fo = sizeV (firs l.fo) (heads l.fo) (deep l.fo) (tot l.fo) := by unfold sizeF; rw [if_pos h0]
        obtain ⟨rfl, rfl, rfl, rfl⟩ := size_inj (hsz.symm.trans hz)
        obtain ⟨hp, ht⟩ := checkF_pos h0
        have hnt : n = tot l.fo := by rw [hn, ← flat_len]; unfold expF; rw [if_pos h0]
        have hft := firs_tot _ hp
        have hdp := deep_le _ _ _ (checkF_ok h0).1 (Nat.zero_le _)
        have hz0 := tot_zero hp
        rw [l.fo_len, ← hml] at hz0
        conv => whnf
        refine .done (.mk _ (awake16 _) ?_)
        rintro _ h11 ⟨rfl, l11⟩
        conv => whnf
        refine .hp _ (cell0 (l11 _ _ q6)) ?_
        conv => whnf
        refine br_dec (fun _ => ?_) (fun q => absurd (show ((tot l.fo : Nat) : Int) = n by omega) q)
        conv => whnf
        refine br_dec (fun _ => ?_) (fun q => absurd (show ((firs l.fo : Nat) : Int) ≤ (tot l.fo : Nat) by omega) q)
        conv => whnf
        refine br_dec (fun _ => ?_) (fun q => absurd (show ((tot l.fo : Nat) : Int) ≤ 2048 by omega) q)
        conv => whnf
        refine br_dec (fun _ => ?_) (fun q => absurd (show ((deep l.fo : Nat) : Int) ≤ 16 by omega) q)
        conv => whnf
        refine .done ⟨?_, Hp.le_trans l1' l11⟩
        show Value.bool (flip false (decide ((m : Int) = 0) == decide (((tot l.fo : Nat) : Int) = 0))) = .bool true
        rw [show decide ((m : Int) = 0) = decide (((tot l.fo : Nat) : Int) = 0) from decide_eq_decide.2 (by omega)]
        simp [flip]
    · exact fun _ _ _ _ e => e.elim
end Go.Sx
