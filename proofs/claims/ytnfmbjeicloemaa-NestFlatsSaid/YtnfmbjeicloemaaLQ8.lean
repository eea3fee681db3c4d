/- NestFlats: the law's own function answers true. Conditions: none. -/
import Derived.Test.YtnfmbjeicloemaaN16V
namespace Go.Sx
open Go.Proofs
theorem zcells_one (l : List Rz) : ∀ u ∈ (l.map zcell).flatten, u.oneCell' = true := by
  intro u hu
  simp only [List.mem_flatten, List.mem_map] at hu
  obtain ⟨_, ⟨r, _, rfl⟩, hu⟩ := hu
  simp only [zcell, List.mem_cons, List.not_mem_nil, or_false] at hu
  rcases hu with rfl | rfl <;> rfl
theorem outR_len (l : List Rz) : (outR l).length ≤ 2048 := by
  unfold outR
  split
  · rename_i h; rw [flR_len]; exact (flatE_ok h).2
  · exact Nat.zero_le _
theorem lawQ8 (D : Option Addr) (n cap : Nat) (l : List Rz) (h : Hp) (ht : Tab h 2 D n (l.map zcell)) (hn : n * 16 ≤ 140737488355328) : Fn Try.prog 8 #[.slice D n cap] h fun v h' => v = .bool true ∧ h.le h' := by
  have hl : l.length = n := by simpa using ht.len
  have hol := outR_len l
  refine Fn.intro (args := [.slice D n cap]) mix16 Try.func8 rfl (by decide) Try.ntmps8 rfl (low8 rfl) rfl ?_
  conv => whnf
  refine .done (.fresh _ rfl rfl rfl (ht.src _) (zcells_one l) (by simp [maxLen]; omega) hn fun A1 c1 hA1 => ?_)
  conv => whnf
  refine .done (.push 0 _ (zcell (-77, 0)) rfl rfl (by intro u hu; simp only [zcell, List.mem_cons, List.not_mem_nil, or_false] at hu; rcases hu with rfl | rfl <;> rfl) rfl (by simp [maxLen]; omega) hn (by decide) fun A2 c2 hA2 => ?_)
  conv => whnf
  obtain ⟨g2, rfl⟩ : ∃ g2, A2 = some g2 := by
    cases A2 with
    | none => exact absurd rfl hA2.1
    | some g2 => exact ⟨g2, rfl⟩
  refine .mk 0 n rfl rfl (Nat.zero_le _) (by omega) fun B hB1 _ => ?_
  obtain rfl : B = some g2 := by rw [hB1 (by omega), map_add0]
  conv => whnf
  refine .pub 0 52 2 (some g2) (n + 1) c2 _ rfl fun h2 l2 r2 f2 => ?_
  have r2 : RowAt h2 52 2 (some g2) (n + 1) c2 ((l ++ [(-77, 0)]).map zcell).flatten := by
    rw [List.map_append, List.flatten_append]; exact r2
  have tb : Tab h2 2 (some g2) (n + 1) ((l ++ [(-77, 0)]).map zcell) := r2.tab (zc_wid _) (by decide)
  have t2 : Tab h2 2 (some g2) n (l.map zcell) := by
    have := tb.take (k := n) (by omega)
    rwa [← List.map_take, List.take_left' hl] at this
  refine .done (.mk _ (flat33 (some g2) n (c2 - 0) l h2 t2 (by omega)) ?_)
  rintro _ h3 ⟨E3, m3, c3, rfl, r3⟩
  conv => whnf
  refine .mk 0 n rfl rfl (Nat.zero_le _) (by omega) fun B hB1 _ => ?_
  obtain rfl : B = some g2 := by rw [hB1 (by omega), map_add0]
  conv => whnf
  refine .done (.mk _ (flat33 (some g2) n (c2 - 0) l h3 (t2.mono r3.le) (by omega)) ?_)
  rintro _ h4 ⟨E4, m4, c4, rfl, r4⟩
  have l24 := Hp.le_trans r3.le r4.le
  conv => whnf
  refine .done (.mk _ (flat34 D n cap l h4 (ht.mono (Hp.le_trans l2 l24)) (by omega)) ?_)
  rintro _ h5 ⟨E5, m5, c5, rfl, r5⟩
  have hm3 := r3.n
  have hm4 := r4.n
  have hne : ∀ g g', E3 = some g → E4 = some g' → g.block ≠ g'.block := fun g g' e e' q => r3.row.mem e (by rw [q]; exact r4.fr g' e')
  have l5 := r5.le
  conv => whnf
  refine br_dec (fun q => absurd rfl q) (fun _ => ?_)
  conv => whnf
  refine br_dec (fun q => absurd rfl q) (fun _ => ?_)
  conv => whnf
  refine .done (.mk _ (same24 _ _ _ _ _ _ _ _ _ (r3.row.mono (Hp.le_trans r4.le l5)).nums r5.row.nums (by omega)) ?_)
  rintro _ _ ⟨rfl, rfl⟩
  rw [decide_eq_true rfl]
  conv => whnf
  refine .done (.mk _ (same24 _ _ _ _ _ _ _ _ _ (r4.row.mono l5).nums r5.row.nums (by omega)) ?_)
  rintro _ _ ⟨rfl, rfl⟩
  rw [decide_eq_true rfl]
  conv => whnf
  refine .done (.mk _ (awake16 _) ?_)
  rintro _ h6 ⟨rfl, l6⟩
  have l56 := Hp.le_trans l5 l6
  conv => whnf
  refine .mk fun bo hbo => ?_
  conv => whnf
  refine .done (.mk _ (apart2 (hB := h2) (Hp.le_trans l24 l56) (r3.row.mono (Hp.le_trans r4.le l56)) (r4.row.mono l56) r3.fr (fun g e => Hp.none_le r3.le (r4.fr g e)) hne hbo (by omega) (by omega)) ?_)
  rintro _ h7 ⟨rfl, l7⟩
  conv => whnf
  refine .mk 0 n rfl rfl (Nat.zero_le _) (by omega) fun B hB1 _ => ?_
  obtain rfl : B = some g2 := by rw [hB1 (by omega), map_add0]
  conv => whnf
  refine .done (.mk _ (samer31 _ _ _ _ _ _ _ _ _ (t2.mono l7) (ht.mono (Hp.le_trans l2 l7)) (by omega)) ?_)
  rintro _ _ ⟨rfl, rfl⟩
  rw [decide_eq_true rfl]
  conv => whnf
  refine .mk g2 rfl (by omega) (by omega) ?_
  conv => whnf
  refine .hp (iv (-77)) (by
    rw [Int.toNat_natCast]
    exact (tb.mono l7).row rfl (i := n) (by rw [List.map_append, List.getElem?_append_right (by simp [hl])]; simp [hl]; rfl) 0 _ rfl) ?_
  conv => whnf
  exact .done ⟨rfl, Hp.le_trans l2 l7⟩
end Go.Sx
