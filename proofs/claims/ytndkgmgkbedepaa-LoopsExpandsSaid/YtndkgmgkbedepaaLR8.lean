/- LoopsExpands: the law's own function answers true. Conditions: none. -/
import Derived.Test.YtndkgmgkbedepaaM17U
namespace Go.Sx
open Go.Proofs
set_option maxRecDepth 100000
theorem lawR8 (D : Option Addr) (n cap : Nat) (zs : List Int) (w : Int) (h : Hp) (hz : Tab h 1 D n (zs.map fun z => [iv z])) (hn : n * 8 ≤ 140737488355328) : Fn Try.prog 8 #[.slice D n cap, iv w] h fun v h' => v = .bool true ∧ h.le h' := by
  have hzl : zs.length = n := by simpa using hz.len
  refine Fn.intro (args := [.slice D n cap, iv w]) mix16 Try.func8 rfl (by decide) Try.ntmps8 rfl (low8 rfl) rfl ?_
  conv => whnf
  refine .done (.mk _ (ints35 D n cap zs h hz hn) ?_)
  rintro _ h1 ⟨l1, A1, c1, rfl, r1, _⟩
  conv => whnf
  refine .done (.mk _ (compress18 zs A1 n c1 h1 r1.nums) ?_)
  rintro _ h2 ⟨l2, Aa, ma, ca, la, rfl, ua, fa⟩
  have sa := ua.sat.mono (Hp.sub_le _ _)
  have hcn := compR_cnt zs
  have cla : la.cnt ≤ 200000 := by rw [lo_cnt, fa]; omega
  have l02 := Hp.le_trans l1 l2
  conv => whnf
  refine .done (.mk _ (good27 D n cap zs h2 (hz.mono l02) (by omega)) ?_)
  rintro _ h2 ⟨rfl, rfl⟩
  by_cases hg : zs.length ≤ 2048 ∧ ∀ x ∈ zs, ¬ badN x
  · have hok : okL zs = true := decide_eq_true hg
    rw [hok]
    have hR : compR zs = (0, comp (lfE (runsR zs))) := by
      unfold compR
      rw [if_neg (by omega), if_neg (fun ⟨x, hx, hb⟩ => hg.2 x hx hb)]
    have C := Cm.of hg.1 hg.2
    rw [hR] at fa ⊢
    replace fa : la.fo.els = comp (lfE (runsR zs)) := fa
    rw [← fa, ] at C
    have ff : mkF la.fo.els = la.fo := mk_els _
    have hck := C.chk
    have hfl := C.fl
    have hdp := C.dp
    have hct := C.cnt
    have hfo := C.fold w
    rw [ff] at hck hfl hdp hct hfo
    have hx : expF la.fo = zs := by unfold expF; rw [if_pos hck, hfl]
    have hsz : sizeF la.fo = sizeV (firs la.fo) (heads la.fo) (deep la.fo) (tot la.fo) := by unfold sizeF; rw [if_pos hck]
    conv => whnf
    refine .done (.mk _ (measure20 la cla Aa ma ca h2 sa) ?_)
    rintro _ h3 ⟨l3, rfl⟩
    rw [hck, hsz]
    conv => whnf
    refine .done (.mk _ (expand22 la cla Aa ma ca h3 (sa.mono l3)) ?_)
    rintro _ h4 ⟨l4, D4, n4, c4, rfl, r4, _⟩
    rw [hck]
    rw [hx] at r4
    have l04 := Hp.le_trans l02 (Hp.le_trans l3 l4)
    have hn4 : n4 = zs.length := by have := (RowAt.nums r4).len; simpa using this.symm
    conv => whnf
    refine .done (.mk _ (same24 D4 D n4 n c4 cap _ _ h4 (RowAt.nums r4) (hz.mono l04) (by omega)) ?_)
    rintro _ h4 ⟨rfl, rfl⟩
    rw [decide_eq_true rfl]
    conv => whnf
    refine .done (.mk _ (ints35 D n cap zs h4 (hz.mono l04) hn) ?_)
    rintro _ h5 ⟨l5, A5, c5, rfl, r5, _⟩
    conv => whnf
    refine .done (.mk _ (runs29 A5 n c5 zs h5 r5.nums (by omega)) ?_)
    rintro _ h6 ⟨E6, m6, c6, rfl, hm6, rw6⟩
    have l36 : h3.le h6 := Hp.le_trans l4 (Hp.le_trans l5 rw6.le)
    have s6 := sa.mono (Hp.le_trans l3 l36)
    have q1 := firs_cnt la.fo
    have q2 := heads_cnt la.fo
    have q3 := once_heads la.fo
    have q4 := deep_cnt la.fo
    have hrl := runsR_len zs
    have hfc := la.fo_cnt
    conv => whnf
    refine br_dec (fun q => absurd q (by omega)) (fun _ => ?_)
    conv => whnf
    refine .mk _ (once30 _ la (Nat.lt_succ_self _) cla Aa ma ca h6 s6) ?_ ?_
    · rintro _ _ ⟨rfl, rfl⟩
      exact Hp.le_refl _
    rintro _ h6 ⟨rfl, rfl⟩
    conv => whnf
    refine .ok (by omega) (by omega) ?_
    conv => whnf
    refine br_dec (fun q => absurd q (by omega)) (fun _ => ?_)
    conv => whnf
    refine br_dec (fun q => absurd q (by omega)) (fun _ => ?_)
    conv => whnf
    refine .done (.mk _ (fold11 w la cla Aa ma ca h6 s6 (by obtain ⟨_, ro, _⟩ := ua.ex; exact row_capn ro)) ?_)
    rintro _ h7 ⟨l7, Ab, mb, cb, lb, rfl, ub, fb⟩
    have sb := ub.sat.mono (Hp.sub_le _ _)
    have l07 := Hp.le_trans l04 (Hp.le_trans l5 (Hp.le_trans rw6.le l7))
    rw [hfo] at fb ⊢
    by_cases hw : w < 1 ∨ 16 < w
    · rw [if_pos hw] at fb ⊢
      have hlb : lb = .nil := by cases lb <;> first | rfl | cases fb
      subst hlb
      have hmb : mb = 0 := by have := sb.1; exact this
      subst hmb
      have fin : ∀ {hh : Hp}, h7.le hh → h.le hh := fun q => Hp.le_trans l07 q
      conv => whnf
      refine br_dec (fun v1 => ?_) (fun v1 => ?_)
      · conv => whnf
        refine br_dec (fun v2 => absurd hw (by omega)) (fun _ => ?_)
        conv => whnf
        refine .done (.mk _ (awake15 _) ?_)
        rintro _ h9 ⟨rfl, l9⟩
        conv => whnf
        exact .done ⟨rfl, fin l9⟩
      · conv => whnf
        refine .done (.mk _ (awake15 _) ?_)
        rintro _ h9 ⟨rfl, l9⟩
        conv => whnf
        exact .done ⟨rfl, fin l9⟩
    · rw [if_neg hw] at fb ⊢
      conv => whnf
      refine br_dec (fun _ => ?_) (fun q => absurd (show (1 : Int) ≤ w by omega) q)
      conv => whnf
      refine br_dec (fun _ => ?_) (fun q => absurd (show w ≤ (16 : Int) by omega) q)
      conv => whnf
      refine .done (.mk _ (awake15 _) ?_)
      rintro _ h9 ⟨rfl, l9⟩
      conv => whnf
      refine .done (.mk _ (sameLoops13 _ la (Nat.lt_succ_self _) cla lb Aa Ab ma mb ca cb h9 (s6.mono (Hp.le_trans l7 l9)) (sb.mono l9)) ?_)
      rintro _ _ ⟨rfl, rfl⟩
      rw [decide_eq_true fb.symm]
      conv => whnf
      exact .done ⟨rfl, Hp.le_trans l07 l9⟩
  · have hok : okL zs = false := decide_eq_false hg
    rw [hok]
    have hR : (compR zs).1 ≠ 0 ∧ (compR zs).2 = [] := by
      unfold compR
      split
      · exact ⟨by decide, rfl⟩
      · split
        · exact ⟨by decide, rfl⟩
        · rename_i q1 q2
          exact absurd ⟨by omega, fun x hx hb => q2 ⟨x, hx, hb⟩⟩ hg
    obtain ⟨e1, e2⟩ := hR
    rw [e2] at fa
    have hla0 : la = .nil := by cases la <;> first | rfl | cases fa
    subst hla0
    have hma : ma = 0 := by have := sa.1; exact this
    subst hma
    conv => whnf
    refine .done (.mk _ (awake15 _) ?_)
    rintro _ h9 ⟨rfl, l9⟩
    conv => whnf
    refine br_dec (fun _ => ?_) (fun q => absurd e1 q)
    conv => whnf
    exact .done ⟨rfl, Hp.le_trans l02 l9⟩
end Go.Sx
