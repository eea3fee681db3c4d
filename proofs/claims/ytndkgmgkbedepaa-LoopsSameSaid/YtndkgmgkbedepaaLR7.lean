/- LoopsSame: the law's own function answers true. Conditions: none. -/
import Derived.Test.YtndkgmgkbedepaaM17T
namespace Go.Sx
open Go.Proofs
set_option maxRecDepth 100000
theorem foldR_err {w : Int} {f : Fo} (h : (foldR w f).1 ≠ 0) : (foldR w f).2 = .nil ∧ ((checkF f ≠ 0 ∧ (foldR w f).1 = checkF f) ∨ (checkF f = 0 ∧ (w < 1 ∨ 16 < w) ∧ (foldR w f).1 = 1) ∨ (checkF f = 0 ∧ ¬ (w < 1 ∨ 16 < w) ∧ (foldR w f).1 = 161)) := by
  unfold foldR at h ⊢
  split
  · rename_i q; exact ⟨rfl, .inl ⟨q, rfl⟩⟩
  · rename_i q
    have q := Decidable.not_not.1 q
    split
    · rename_i q2; exact ⟨rfl, .inr (.inl ⟨q, q2, rfl⟩)⟩
    · rename_i q2
      split
      · exact ⟨rfl, .inr (.inr ⟨q, q2, rfl⟩)⟩
      · rename_i q3
        rw [if_neg (fun x => x q), if_neg q2, if_neg q3] at h
        exact absurd rfl h
theorem foldR_ok {w : Int} {f : Fo} (h : (foldR w f).1 = 0) : checkF f = 0 ∧ checkF (foldR w f).2 = 0 ∧ flat (foldR w f).2 = flat f ∧ (foldR w f).2.len ≤ f.len ∧ ((foldR w f).2.len = f.len → (foldR w f).2 = f) := by
  unfold foldR at h ⊢
  split at h
  · rename_i q; exact absurd h q
  · rename_i q
    have q' := Decidable.not_not.1 q
    rw [if_neg q]
    split at h
    · cases h
    · rename_i q2
      rw [if_neg q2]
      split at h
      · cases h
      · rename_i q3
        have q3' := Decidable.not_not.1 q3
        rw [if_neg q3]
        have hw : 1 ≤ w.toNat := by omega
        have k1 := (pass_cnt hw _ f.els (Nat.le_refl _)).2
        rw [els_len] at k1
        refine ⟨q', q3', (pass_check hw q').2.2.1, ?_, fun he => ?_⟩
        · rw [mkF_len]; exact k1
        · rw [mkF_len, ← els_len f] at he
          rw [pass_same hw _ _ (Nat.le_refl _) he, mk_els]
theorem lawR7 (w : Int) (l : Lo) (A : Option Addr) (m cap : Nat) (h : Hp) (hs : SAt h A m l) (_ : m ≤ cap) : Fn Try.prog 7 #[iv w, .slice A m cap] h fun v h' => v = .bool true ∧ h.le h' := by
  refine Fn.intro (args := [iv w, .slice A m cap]) mix16 Try.func7 rfl (by decide) Try.ntmps7 rfl (low7 rfl) rfl ?_
  conv => whnf
  refine .done (.mk _ (heavy14 l A m cap h hs) ?_)
  rintro _ h1 ⟨rfl, hv, rfl, hc⟩
  cases hv with
  | true =>
    conv => whnf
    exact .done ⟨rfl, Hp.le_refl _⟩
  | false =>
    have hc := Nat.le_trans (hc rfl) (by decide : 65536 ≤ 200000)
    conv => whnf
    refine .done (.mk _ (lentX _ l (Nat.lt_succ_self _) hc A m cap h1 hs) ?_)
    rintro _ h2 ⟨l2, A2, c2, t2, rfl, m2, f2⟩
    have m2 := m2.smt.mono (Hp.sub_le _ _)
    have hc2 : t2.cnt ≤ 200000 := by rw [← t2.fo_cnt, f2, l.fo_cnt]; exact hc
    have hcc := m2.cap
    conv => whnf
    refine .done (.mk _ (fold11 w t2 hc2 A2 m c2 h2 m2.sat (Nat.le_of_lt hcc)) ?_)
    rintro _ h3 ⟨l3, Aa, ma, ca, la, rfl, ua, fa⟩
    rw [f2] at fa ⊢
    have sa := ua.sat.mono (Hp.sub_le _ _)
    have hla : la.cnt ≤ 200000 := by
      have := foldR_cnt w l.fo
      have lcnt := l.fo_cnt
      rw [← la.fo_cnt, fa]; omega
    have l13 := Hp.le_trans l2 l3
    conv => whnf
    refine .done (.mk _ (lentX _ l (Nat.lt_succ_self _) hc A m cap h3 (hs.mono l13)) ?_)
    rintro _ h4 ⟨l4, A4, c4, t4, rfl, m4, f4⟩
    have m4 := m4.smt.mono (Hp.sub_le _ _)
    have hc4 : t4.cnt ≤ 200000 := by rw [← t4.fo_cnt, f4, l.fo_cnt]; exact hc
    have l14 := Hp.le_trans l13 l4
    conv => whnf
    refine .done (.mk _ (check17 t4 hc4 A4 m c4 h4 m4.sat) ?_)
    rintro _ h5 ⟨l5, rfl⟩
    rw [f4]
    have l15 := Hp.le_trans l14 l5
    have hle : (la.len : Int) = ma := by rw [← sa.1]
    have hlm : (l.len : Int) = m := by rw [← hs.1]
    conv => whnf
    refine br_dec (fun u => ?_) (fun u => ?_)
    · obtain ⟨e1, e2⟩ := foldR_err u
      rw [e1] at fa
      have hla0 : la = .nil := by cases la <;> first | rfl | cases fa
      subst hla0
      have hma : ma = 0 := by have := sa.1; exact this
      subst hma
      generalize (foldR w l.fo).1 = E at u e2
      generalize checkF l.fo = C at e2
      rcases e2 with ⟨e2, rfl⟩ | ⟨rfl, e2, rfl⟩ | ⟨rfl, e2, rfl⟩
      · conv => whnf
        refine br_dec (fun v1 => ?_) (fun v1 => ?_)
        all_goals
          conv => whnf
          refine br_dec (fun _ => ?_) (fun q => absurd e2 q)
          conv => whnf
          refine br_dec (fun _ => ?_) (fun q => absurd rfl q)
          conv => whnf
          refine .done (.mk _ (awake15 _) ?_)
          rintro _ h9 ⟨rfl, l9⟩
          conv => whnf
          exact .done ⟨rfl, Hp.le_trans l15 l9⟩
      · conv => whnf
        refine br_dec (fun v1 => ?_) (fun v1 => ?_)
        · conv => whnf
          refine .done (.mk _ (awake15 _) ?_)
          rintro _ h9 ⟨rfl, l9⟩
          conv => whnf
          exact .done ⟨rfl, Hp.le_trans l15 l9⟩
        · conv => whnf
          refine br_dec (fun _ => ?_) (fun q => absurd q (by omega))
          conv => whnf
          refine .done (.mk _ (awake15 _) ?_)
          rintro _ h9 ⟨rfl, l9⟩
          conv => whnf
          exact .done ⟨rfl, Hp.le_trans l15 l9⟩
      · conv => whnf
        refine br_dec (fun v1 => ?_) (fun v1 => ?_)
        · omega
        · conv => whnf
          refine br_dec (fun q => absurd q (by omega)) (fun v2 => ?_)
          conv => whnf
          refine br_intro (fun _ => ?_) (fun q => absurd (of_decide_eq_true (show decide (w > 16) = true by simpa using q)) v2)
          conv => whnf
          refine .done (.mk _ (awake15 _) ?_)
          rintro _ h9 ⟨rfl, l9⟩
          conv => whnf
          exact .done ⟨rfl, Hp.le_trans l15 l9⟩
    · have u0 := Decidable.not_not.1 u
      obtain ⟨e1, e2, e3, e4, e5⟩ := foldR_ok u0
      conv => whnf
      refine .done (.mk _ (lentX _ l (Nat.lt_succ_self _) hc A m cap h5 (hs.mono l15)) ?_)
      rintro _ h6 ⟨l6, A6, c6, t6, rfl, m6, f6⟩
      have m6 := m6.smt.mono (Hp.sub_le _ _)
      have hc6 : t6.cnt ≤ 200000 := by rw [← t6.fo_cnt, f6, l.fo_cnt]; exact hc
      conv => whnf
      refine .done (.mk _ (expand22 t6 hc6 A6 m c6 h6 m6.sat) ?_)
      rintro _ h7 ⟨l7, D1, n1, d1, rfl, ro1, _⟩
      have l37 := Hp.le_trans l4 (Hp.le_trans l5 (Hp.le_trans l6 l7))
      conv => whnf
      refine .done (.mk _ (expand22 la hla Aa ma ca h7 (sa.mono l37)) ?_)
      rintro _ h8 ⟨l8, D2, n2, d2, rfl, ro2, _⟩
      rw [f6, fa]
      rw [fa] at ro2
      rw [f6] at ro1
      have hx1 : expF l.fo = flat l.fo := by unfold expF; rw [if_pos e1]
      have hx2 : expF (foldR w l.fo).2 = flat l.fo := by unfold expF; rw [if_pos e2, e3]
      rw [hx1] at ro1
      rw [hx2] at ro2
      rw [← fa, la.fo_len, l.fo_len] at e4
      rw [← fa, la.fo_len, l.fo_len] at e5
      have l48 : h4.le h8 := Hp.le_trans l5 (Hp.le_trans l6 (Hp.le_trans l7 l8))
      have hfl := flat_len l.fo
      have htt := (checkF_ok e1).2
      have hn1 : n1 = (flat l.fo).length := by have := (RowAt.nums ro1).len; simpa using this.symm
      conv => whnf
      refine br_dec (fun q => absurd e1 q) (fun _ => ?_)
      conv => whnf
      refine br_dec (fun q => absurd e1 q) (fun _ => ?_)
      conv => whnf
      refine br_dec (fun q => absurd e2 q) (fun _ => ?_)
      conv => whnf
      refine .done (.mk _ (same24 D1 D2 n1 n2 d1 d2 _ _ h8 ((RowAt.nums ro1).mono l8) (RowAt.nums ro2) (by omega)) ?_)
      rintro _ _ ⟨rfl, rfl⟩
      rw [decide_eq_true rfl]
      conv => whnf
      refine br_dec (fun q => absurd q (by omega)) (fun _ => ?_)
      conv => whnf
      refine .done (.mk _ (awake15 _) ?_)
      rintro _ h9 ⟨rfl, l9⟩
      have l39 : h3.le h9 := Hp.le_trans l4 (Hp.le_trans l48 l9)
      conv => whnf
      refine br_dec (fun q => ?_) (fun q => ?_)
      · conv => whnf
        exact .done ⟨rfl, Hp.le_trans l13 l39⟩
      · conv => whnf
        refine .done (.mk _ (sameLoops13 _ la (Nat.lt_succ_self _) hla l Aa A ma m ca cap h9 (sa.mono l39) (hs.mono (Hp.le_trans l13 l39))) ?_)
        rintro _ _ ⟨rfl, rfl⟩
        rw [decide_eq_true (e5 (by omega))]
        conv => whnf
        exact .done ⟨rfl, Hp.le_trans l13 l39⟩
end Go.Sx
