/- The chapter's examples hold. Conditions: none. -/
import Derived.Test.YtnfmbjeicloemaaN16T
import Derived.Test.YtnfmbjeicloemaaN16P
namespace Go.Sx
open Go.Proofs
def insF : Fo := .cons 3 0 (.cons 1 1 .nil (.cons 2 2 .nil .nil)) .nil
theorem Tab.lit {h : Hp} {b ty size n : Nat} {cs : List Value} {rows : List (List Value)} (hb : h b = some (.cells cs.toArray ty (0, 0))) (hr : rows.flatten = cs) (hw : ∀ r ∈ rows, r.length = size) (hn : rows.length = n) : Tab h size (some ⟨b, 0, none⟩) n rows := by
  refine ⟨hn, hw, fun _ => ⟨_, rfl⟩, fun g hg i r hi j v hv => ?_⟩
  injection hg with hg
  subst hg
  have := flat_at _ hw i j r v hi hv
  rw [add_lit, Nat.zero_add, Hp.cell?]
  simp only [hb, Option.isSome_none, Bool.false_eq_true, if_false]
  rw [← hr]
  simpa using this
theorem lit_cell {h : Hp} {b : Nat} {l : List Value} {ty : Nat} (hb : h b = some (.cells l.toArray ty (0, 0))) {j : Nat} {v : Value} (hv : l[j]? = some v) : h.cell? ⟨b, j, none⟩ = some v := by
  unfold Hp.cell?; simp [hb, hv]
theorem inside37 (h : Hp) : Fn Try.prog 37 #[] h fun v h' => h.le h' ∧ ∃ A l, v = .slice A 1 1 ∧ SAt h' A 1 l ∧ l.fo = insF ∧ l.cnt ≤ 200000 := by
  refine Fn.intro (args := []) mix16 Try.func37 rfl (by decide) Try.ntmps37 rfl (low37 rfl) rfl ?_
  conv => whnf
  refine .mk fun b hb => ?_
  conv => whnf
  refine .mk fun b2 hb2 => ?_
  conv => whnf
  refine .done ⟨Hp.le_trans (Hp.le_put hb) (Hp.le_put hb2), _, .cons 3 0 (some ⟨b, 0, none⟩) 2 2 (.cons 1 1 none 0 0 .nil (.cons 2 2 none 0 0 .nil .nil)) .nil, rfl, ⟨rfl, .inr ⟨_, rfl, ?_⟩⟩, rfl, by simp [Lo.cnt]⟩
  have k1 := Hp.put_same (h.put b (Obj.cells (lcells 1 1 none 0 0 ++ lcells 2 2 none 0 0).toArray 58 (0, 0))) b2 (Obj.cells (lcells 3 0 (some ⟨b, 0, none⟩) 2 2).toArray 58 (0, 0))
  have k2 := Hp.le_put (o := Obj.cells (lcells 3 0 (some ⟨b, 0, none⟩) 2 2).toArray 58 (0, 0)) hb2 _ _ (Hp.put_same h b (Obj.cells (lcells 1 1 none 0 0 ++ lcells 2 2 none 0 0).toArray 58 (0, 0)))
  refine ⟨fun j v hv => ?_, rfl, .inr ⟨_, rfl, fun j v hv => ?_, rfl, .inl rfl, fun j v hv => ?_, rfl, .inl rfl, trivial⟩, trivial⟩
  · rw [add_lit, add_lit]
    exact lit_cell k1 (by simpa using hv)
  · rw [add_lit, add_lit]
    exact lit_cell k2 (by rw [List.getElem?_append_left (by have := (List.getElem?_eq_some_iff.1 hv).1; simpa using this)]; simpa using hv)
  · rw [add_lit, add_lit]
    exact lit_cell k2 (by rw [List.getElem?_append_right (by simp [lcells])]; simpa [lcells] using hv)
theorem ins_check : checkF insF = 0 ∧ sizeF insF = sizeV 2 2 1 9 ∧ expF insF = [1, 2, 2, 1, 2, 2, 1, 2, 2] := by
  refine ⟨by decide, ?_, by decide⟩
  unfold sizeF
  rw [if_pos (by decide)]
  rfl
theorem awake16 (h : Hp) : Fn Try.prog 16 #[] h fun v h' => v = .bool true ∧ h.le h' := by
  obtain ⟨i1, i2, i3⟩ := ins_check
  refine FnY.intro (args := []) Try.func16 rfl (by decide) Try.ntmps16 rfl (low16 rfl) rfl ?_
  conv => whnf
  refine .done (.mk _ (inside37 h) ?_)
  rintro _ h1 ⟨l1, A1, t1, rfl, s1, f1, c1⟩
  conv => whnf
  refine .done (.mk _ (measure20 t1 c1 A1 1 1 h1 s1) ?_)
  rintro _ h2 ⟨l2, rfl⟩
  rw [f1, i1, i2]
  conv => whnf
  refine .done (.mk _ (inside37 h2) ?_)
  rintro _ h3 ⟨l3, A3, t3, rfl, s3, f3, c3⟩
  conv => whnf
  refine .done (.mk _ (expand22 t3 c3 A3 1 1 h3 s3) ?_)
  rintro _ h4 ⟨l4, D4, n4, k4, rfl, r4, fr4⟩
  rw [f3, i1]
  rw [f3, i3] at r4
  obtain rfl : n4 = 9 := row_n r4
  conv => whnf
  refine .mk fun b5 hb5 => ?_
  conv => whnf
  refine .done (.mk _ (runs29 (some ⟨b5, 0, none⟩) 4 4 [3, 3, -1, 3] _ (Tab.lit (Hp.put_same _ _ _) (flat_nums [3, 3, -1, 3]) (ints_wid _) rfl) (by decide)) ?_)
  rintro _ h6 ⟨D6, n6, k6, rfl, hn6, r6⟩
  obtain rfl : n6 = 3 := hn6
  have l5 : h4.le h6 := Hp.le_trans (Hp.le_put hb5) r6.le
  conv => whnf
  refine .mk fun b7 hb7 => ?_
  conv => whnf
  refine .done (.mk _ (flat33 (some ⟨b7, 0, none⟩) 2 2 [(3, 2), (1, 1)] _ (Tab.lit (Hp.put_same _ _ _) rfl (zc_wid _) rfl) (by decide)) ?_)
  rintro _ h8 ⟨D8, n8, k8, rfl, r8⟩
  have hr8 : outR [(3, 2), (1, 1)] = [3, 3, 1] := by decide
  have he8 : flatE [(3, 2), (1, 1)] = 0 := by decide
  rw [hr8] at r8
  rw [he8]
  obtain rfl : n8 = 3 := r8.n
  have l7 : h6.le h8 := Hp.le_trans (Hp.le_put hb7) r8.le
  conv => whnf
  refine .done (.mk _ (inside37 h8) ?_)
  rintro _ h9 ⟨l9, A9, t9, rfl, s9, f9, c9⟩
  conv => whnf
  refine .done (.mk _ (all26 t9 c9 A9 1 1 h9 s9) ?_)
  rintro _ h10 ⟨l10, g, trail, T, rfl, hIt, hTm, hT⟩
  rw [f9, i3] at hIt
  conv => whnf
  refine .mk [8] ?_
  conv => whnf
  refine .mk fun b hb => ?_
  conv => whnf
  refine .done (.mk T [1, 2, 2, 1, 2, 2, 1, 2, 2] (Lst h10 b) (fun _ _ _ => False) hIt hTm rfl (Lst.nil hb) ?_ ?_ ?_ ?_)
  · rintro pre h' ⟨D, n, c, _, q1, _⟩
    exact hTm _ _ (Hp.le_trans (Hp.sub_le _ _) q1) hT
  · rintro e0 pre x h' ⟨D, n, c, hb, q1, q2, q3, q4⟩ hpx
    have hnl := row_n q3
    have hpl := pre_len hpx (by decide)
    conv => whnf
    refine .hp _ (lst_cell q2) ?_
    conv => whnf
    refine .abs 3 1 D n c _ q3 (.done (.old 1 _ [iv x] rfl rfl (numsv_one [x]) (by simp [maxLen]; omega) (by omega) fun D2 c2 hD2 => ?_))
    conv => whnf
    refine .hp b 0 35 [.slice D n c] [.slice D2 (n + 1) c2] rfl (lst_del q2 q3) rfl ?_
    conv => whnf
    exact .pub 1 3 1 D2 (n + 1) c2 _ rfl fun h4 l4 hro hf => .done (Lst.step hb q1 q4 l4 hro hf)
  · rintro h' ⟨D, n, c, hb, q1, q2, q3, q4⟩
    obtain rfl : n = 9 := row_n q3
    have r4b := r4.mono (Hp.le_trans l5 (Hp.le_trans l7 (Hp.le_trans l9 (Hp.le_trans l10 q1))))
    have r8b := r8.row.mono (Hp.le_trans l9 (Hp.le_trans l10 q1))
    have r6b := r6.row.mono (Hp.le_trans l7 (Hp.le_trans l9 (Hp.le_trans l10 q1)))
    have hl0 : h.le h' := Hp.le_trans l1 (Hp.le_trans l2 (Hp.le_trans l3 (Hp.le_trans l4 (Hp.le_trans l5 (Hp.le_trans l7 (Hp.le_trans l9 (Hp.le_trans l10 q1)))))))
    conv => whnf
    refine .mk fun b11 hb11 => ?_
    have hl11 : h'.le (h'.put b11 (.cells (([1, 2, 2, 1, 2, 2, 1, 2, 2] : List Int).map iv).toArray 3 (0, 0))) := Hp.le_put hb11
    have t11 : Tab (h'.put b11 (.cells (([1, 2, 2, 1, 2, 2, 1, 2, 2] : List Int).map iv).toArray 3 (0, 0))) 1 (some ⟨b11, 0, none⟩) 9 (([1, 2, 2, 1, 2, 2, 1, 2, 2] : List Int).map fun z => [iv z]) := Tab.lit (Hp.put_same _ _ _) (flat_nums _) (ints_wid _) rfl
    conv => whnf
    refine .done (.mk _ (same24 _ _ _ _ _ _ _ _ _ (r4b.mono hl11).nums t11 (by decide)) ?_)
    rintro _ _ ⟨rfl, rfl⟩
    rw [decide_eq_true rfl]
    conv => whnf
    refine .hp _ (lst_cell (hl11 _ _ q2)) ?_
    conv => whnf
    refine .done (.mk _ (same24 _ _ _ _ _ _ _ _ _ (q3.mono hl11).nums t11 (by decide)) ?_)
    rintro _ _ ⟨rfl, rfl⟩
    rw [decide_eq_true rfl]
    conv => whnf
    refine .mk fun b12 hb12 => ?_
    have hl12 := Hp.le_trans hl11 (Hp.le_put (o := .cells (([3, 3, 1] : List Int).map iv).toArray 3 (0, 0)) hb12)
    conv => whnf
    refine .done (.mk _ (same24 _ _ _ _ _ _ _ _ _ (r8b.mono hl12).nums (Tab.lit (Hp.put_same _ _ _) (flat_nums [3, 3, 1]) (ints_wid _) rfl) (by decide)) ?_)
    rintro _ _ ⟨rfl, rfl⟩
    rw [decide_eq_true rfl]
    conv => whnf
    refine .done (.mk _ (inside37 _) ?_)
    rintro _ h13 ⟨l13, A13, t13, rfl, s13, f13, c13⟩
    conv => whnf
    refine .done (.mk _ (check17 t13 c13 A13 1 1 h13 s13) ?_)
    rintro _ h14 ⟨l14, rfl⟩
    rw [f13, i1]
    conv => whnf
    refine .mk fun b15 hb15 => ?_
    have s15 : SAt (h14.put b15 (.cells (lcells 0 0 none 0 0).toArray 58 (0, 0))) (some ⟨b15, 0, none⟩) 1 (.cons 0 0 none 0 0 .nil .nil) := ⟨rfl, .inr ⟨_, rfl, fun j v hv => by
      rw [add_lit, add_lit]
      exact lit_cell (Hp.put_same _ _ _) (by simpa using hv), rfl, .inl rfl, trivial⟩⟩
    conv => whnf
    refine .done (.mk _ (check17 (.cons 0 0 none 0 0 .nil .nil) (by simp [Lo.cnt]) _ 1 1 _ s15) ?_)
    rintro _ h16 ⟨l16, rfl⟩
    rw [show checkF (Lo.cons 0 0 none 0 0 .nil .nil).fo = 160 by decide]
    have l15 : h'.le h16 := Hp.le_trans hl12 (Hp.le_trans l13 (Hp.le_trans l14 (Hp.le_trans (Hp.le_put hb15) l16)))
    have t6 : Tab h16 2 D6 3 ((runsR [3, 3, -1, 3]).map rcell) := (r6b.mono l15).tab (rc_wid _) (by decide)
    obtain ⟨g6, hg6⟩ := t6.ad (by decide)
    conv => whnf
    refine .mk g6 hg6 (by decide) (by decide) ?_
    conv => whnf
    refine .hp (rcell (3, 2)) rfl (t6.row hg6 (i := 0) rfl) ?_
    conv => whnf
    exact .done ⟨rfl, Hp.le_trans hl0 l15⟩
  · exact fun _ _ _ _ e => e.elim
end Go.Sx
