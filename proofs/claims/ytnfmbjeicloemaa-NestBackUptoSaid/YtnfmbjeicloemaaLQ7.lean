/- NestRuns: the law's own function answers true. Conditions: none. -/
import Derived.Test.YtnfmbjeicloemaaN16X
namespace Go.Sx
open Go.Proofs
theorem over_some {α : Type} : ∀ (off : Nat) (l ys : List α), off + ys.length ≤ l.length → ∃ r, over l off ys = some r
  | 0, l, [], _ => ⟨l, by cases l <;> rfl⟩
  | 0, [], y :: ys, h => by simp at h
  | 0, x :: l, y :: ys, h => by
    obtain ⟨r, hr⟩ := over_some 0 l ys (by simp at h ⊢; omega)
    exact ⟨y :: r, by simp [over, hr]⟩
  | off + 1, [], ys, h => by simp at h
  | off + 1, x :: l, ys, h => by
    obtain ⟨r, hr⟩ := over_some off l ys (by simp at h ⊢; omega)
    exact ⟨x :: r, by simp [over, hr]⟩
/-- some cells of a row written over -/
theorem RowAt.writes {h : Hp} {ety size n cap off : Nat} {A : Option Addr} {xs ys : List Value} (x : RowAt h ety size A n cap xs) (ho : off + ys.length ≤ n * size) (hy : 0 < ys.length) :
    ∃ g cs cs' xs', A = some ⟨g, 0, none⟩ ∧ h g = some (.cells cs.toArray ety (0, 0)) ∧ over cs off ys = some cs' ∧ RowAt (h.put g (.cells cs'.toArray ety (0, 0))) ety size A n cap xs' := by
  obtain ⟨h1, h2⟩ := x
  rcases h2 with ⟨_, h2, _⟩ | ⟨g, cur, q1, q2, q3, q4, q5, q6⟩
  · subst h2; omega
  · have hle : n * size ≤ cap * size := Nat.mul_le_mul_right size q3
    obtain ⟨cs', hcs⟩ := over_some off cur.toList ys (by simp; omega)
    have hl := (over_len _ _ _ _ hcs).1
    refine ⟨g, cur.toList, cs', cs'.take (n * size), q1, by simpa using q2, hcs, ?_, .inr ⟨g, cs'.toArray, q1, Hp.put_same _ _ _, q3, q4, ?_, rfl⟩⟩
    · rw [List.length_take, hl]; simp; omega
    · simp [hl, q5]
theorem runs_tab {h : Hp} {D : Option Addr} {m c : Nat} {l : List Rn} (x : RowAt h 52 2 D m c (rcells l)) : Tab h 2 D m ((l.map zr).map zcell) := by
  rw [rc_zr]; exact x.tab (rc_wid l) (by decide)
theorem lawQ7 (D : Option Addr) (n cap : Nat) (l : List Int) (h : Hp) (hz : Tab h 1 D n (l.map fun z => [iv z])) (hn : n ≤ 4398046511103) : Fn Try.prog 7 #[.slice D n cap] h fun v h' => v = .bool true ∧ h.le h' := by
  have hl : l.length = n := by simpa using hz.len
  have hrl := runsR_len l
  refine Fn.intro (args := [.slice D n cap]) mix16 Try.func7 rfl (by decide) Try.ntmps7 rfl (low7 rfl) rfl ?_
  conv => whnf
  refine .done (.mk _ (lent28 D n cap l h hz (by omega)) ?_)
  rintro _ h1 ⟨l1, A1, rfl, t1⟩
  conv => whnf
  refine .done (.mk _ (runs29 A1 n (n + 4) l h1 t1.tab (by omega)) ?_)
  rintro _ h2 ⟨E, m, c, rfl, hm, r2⟩
  conv => whnf
  refine .done (.mk _ (runs29 A1 n (n + 4) l h2 (t1.mono r2.le).tab (by omega)) ?_)
  rintro _ h3 ⟨E3, m3, c3, rfl, hm3, r3⟩
  have l13 := Hp.le_trans r2.le r3.le
  conv => whnf
  refine .done (.mk _ (runs30 D n cap l h3 (hz.mono (Hp.le_trans l1 l13)) (by omega)) ?_)
  rintro _ h4 ⟨E4, m4, c4, rfl, hm4, r4⟩
  have hne3 : ∀ g g', E3 = some g → E = some g' → g.block ≠ g'.block := fun g g' e e' q => r2.row.mem e' (by rw [← q]; exact r3.fr g e)
  have hne4 : ∀ g g', E4 = some g → E = some g' → g.block ≠ g'.block := fun g g' e e' q => (r2.row.mono r3.le).mem e' (by rw [← q]; exact r4.fr g e)
  have x2 := r2.row.mono (Hp.le_trans r3.le r4.le)
  have x3 := r3.row.mono r4.le
  conv => whnf
  refine .done (.mk _ (samer31 _ _ _ _ _ _ _ _ _ (runs_tab x2) (runs_tab r4.row) (by omega)) ?_)
  rintro _ h4 ⟨rfl, rfl⟩
  rw [decide_eq_true rfl]
  conv => whnf
  refine .done (.mk _ (samer31 _ _ _ _ _ _ _ _ _ (runs_tab x3) (runs_tab r4.row) (by omega)) ?_)
  rintro _ h4 ⟨rfl, rfl⟩
  rw [decide_eq_true rfl]
  -- what stays
  have hB : h1.le (delA h4 E) := delA_none (Hp.le_trans l13 r4.le) r2.fr
  have y3 := x3.del (B := E) hne3
  have y4 := r4.row.del (B := E) hne4
  have fE : ∀ g, E = some g → delA h4 E g.block = none := fun g e => delA_at e
  conv => whnf
  refine .mk Nat [0, 3, 4, 5, 6, 7] (fun i => [.v (.slice D n cap), .v (.slice A1 n (n + 4)), .v (.slice E m c), .v (.slice E3 m3 c3), .v (.slice E4 m4 c4), .v (iv i)]) (fun _ => [])
    (fun i h' => i ≤ m ∧ (delA h4 E).le h' ∧ ∃ xs, RowAt h' 52 2 E m c xs) (fun i => m - i) 0 (fun _ => rfl) ⟨Nat.zero_le _, delA_le _ _, _, x2⟩ rfl rfl ?_
  rintro i e h' ⟨hi, hle, xs, hx⟩
  conv => whnf
  refine br_dec (fun h5 => ?_) (fun h5 => ?_)
  · obtain ⟨g, cs, cs', xs', q1, q2, q3, q4⟩ := hx.writes (off := i * 2) (ys := [iv 0, iv (-7)]) (by simp; omega) (by decide)
    conv => whnf
    refine .mk ⟨g, 0, none⟩ q1 (by omega) (by omega) ?_
    conv => whnf
    refine .hp g (i * 2) 52 cs cs' (by rw [Int.toNat_natCast, add_lit, Nat.zero_add]) q2 q3 ?_
    conv => whnf
    refine .ok (by omega) (by omega) ?_
    conv => whnf
    exact ⟨i + 1, rfl, rfl, ⟨by omega, le_put2 hle (fE _ q1), xs', q4⟩, by omega⟩
  · conv => whnf
    refine .mkS [] (Nat × Option Addr × Nat × Nat) [0, 3, 4, 5, 6, 8] (fun (j, F, k, d) => [.v (.slice D n cap), .v (.slice A1 n (n + 4)), .v (.slice F k d), .v (.slice E3 m3 c3), .v (.slice E4 m4 c4), .v (iv j)]) (fun _ => [])
      (fun (j, F, k, d) h' => j ≤ 16 ∧ k = m + j ∧ (delA h4 E).le h' ∧ (∀ g, F = some g → delA h4 E g.block = none) ∧ ∃ xs, RowAt h' 52 2 F k d xs) (fun (j, _, _, _) => 16 - j) (0, E, m, c) (fun _ => rfl) ⟨Nat.zero_le _, rfl, hle, fE, xs, hx⟩ rfl rfl rfl ?_
    rintro ⟨j, F, k, d⟩ e h' ⟨hj, hk, hle, fF, xs, hx⟩
    refine .done ?_
    conv => whnf
    refine br_dec (fun h6 => ?_) (fun h6 => ?_)
    · conv => whnf
      refine .abs 52 2 F k d _ hx (.done (.old 1 _ [iv 0, iv (-8)] rfl rfl (by intro u hu; simp only [List.mem_cons, List.not_mem_nil, or_false] at hu; rcases hu with rfl | rfl <;> rfl) (by simp [maxLen]; omega) (by omega) fun F2 d2 hF2 => ?_))
      conv => whnf
      refine .ok (by omega) (by omega) ?_
      conv => whnf
      have hd := delA_none hle fF
      exact .pub 1 52 2 F2 (k + 1) d2 _ rfl fun h7 l7 r7 f7 => .done ⟨(j + 1, F2, k + 1, d2), rfl, rfl, ⟨by omega, by omega, Hp.le_trans hd l7, fun g e => Hp.none_le hd (f7 g e), _, r7⟩, by show 16 - (j + 1) < 16 - j; omega⟩
    · conv => whnf
      refine .done (.mk _ (awake16 _) ?_)
      rintro _ h8 ⟨rfl, l8⟩
      have lB := Hp.le_trans hle l8
      conv => whnf
      refine .done (.mk _ (samer31 _ _ _ _ _ _ _ _ _ (runs_tab (y3.mono lB)) (runs_tab (y4.mono lB)) (by omega)) ?_)
      rintro _ _ ⟨rfl, rfl⟩
      rw [decide_eq_true rfl]
      have l18 := Hp.le_trans hB lB
      conv => whnf
      refine .done (.mk _ (runs29 A1 n (n + 4) l _ (t1.mono l18).tab (by omega)) ?_)
      rintro _ h9 ⟨E9, m9, c9, rfl, hm9, r9⟩
      conv => whnf
      refine .done (.mk _ (samer31 _ _ _ _ _ _ _ _ _ (runs_tab r9.row) (runs_tab (y4.mono (Hp.le_trans lB r9.le))) (by omega)) ?_)
      rintro _ _ ⟨rfl, rfl⟩
      rw [decide_eq_true rfl]
      have l19 := Hp.le_trans l18 r9.le
      conv => whnf
      refine .done (.mk _ (kept32 A1 D n cap l _ (t1.mono l19) (hz.mono (Hp.le_trans l1 l19)) (by omega)) ?_)
      rintro _ _ ⟨rfl, rfl⟩
      conv => whnf
      exact .done ⟨rfl, Hp.le_trans l1 l19⟩
end Go.Sx
