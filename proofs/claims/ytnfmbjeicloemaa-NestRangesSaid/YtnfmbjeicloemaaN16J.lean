/- A nest's firings, to range over and as a list. Conditions: none. -/
import Derived.Test.YtnfmbjeicloemaaN16I
namespace Go.Sx
open Go.Proofs
theorem iter45 : Iter Try.prog 45 [] [] (fun _ => True) [] := by
  intro l J Jx _ _ h hj
  refine Fn.intro (args := [yv l]) mix16 Try.func45 rfl (by decide) Try.ntmps45 rfl (low45 rfl) rfl ?_
  conv => whnf
  exact .done (.inl hj)
def T47 (cb : Nat) (A : Option Addr) (m cap : Nat) (lo : Lo) (h : Hp) : Prop := h.cell? ⟨cb, 0, none⟩ = some (.slice A m cap) ∧ SAt h A m lo
theorem T47.mono {cb : Nat} {A : Option Addr} {m cap : Nat} {lo : Lo} : ∀ h h' : Hp, h.le h' → T47 cb A m cap lo h → T47 cb A m cap lo h' := fun _ _ x ⟨a, b⟩ => ⟨Hp.cell_le x a, b.mono x⟩
theorem iter47 (cb : Nat) (A : Option Addr) (m cap : Nat) (lo : Lo) (hc : lo.cnt ≤ 200000) (hp : Pos lo.fo) (ht : tot lo.fo ≤ 2048) : Iter Try.prog 47 [] [lptr cb] (T47 cb A m cap lo) (flat lo.fo) := by
  intro l J Jx hT hY h hj
  refine Fn.intro (args := [yv l, lptr cb]) mix16 Try.func47 rfl (by decide) Try.ntmps47 rfl (low47 rfl) rfl ?_
  conv => whnf
  refine .hp _ (hT _ _ hj).1 ?_
  conv => whnf
  refine .done (.mk _ (walk48 l J Jx (flat lo.fo) hY _ lo (Nat.lt_succ_self _) hc hp ht A m cap [] h (fun pre h hj => (hT _ _ hj).2) hj (List.prefix_refl _)) ?_)
  rintro _ h2 (⟨rfl, hj2⟩ | ⟨rfl, p, hp, hj2⟩)
  · conv => whnf
    exact .done (.inl hj2)
  · conv => whnf
    exact .done (.inr ⟨p, hp, hj2⟩)
/-- what is ranged over -/
def expF (f : Fo) : List Int := if checkF f = 0 then flat f else []
theorem checkF_pos {f : Fo} (h : checkF f = 0) : Pos f ∧ tot f ≤ 2048 := by
  obtain ⟨h1, h2⟩ := checkF_ok h
  exact ⟨findF_pos _ _ _ h1, h2⟩
theorem expF_len (f : Fo) : (expF f).length ≤ 2048 := by
  unfold expF
  split
  · rename_i h; rw [flat_len]; exact (checkF_pos h).2
  · exact Nat.zero_le _
theorem all26 (l : Lo) (hc : l.cnt ≤ 200000) (A : Option Addr) (m cap : Nat) (h : Hp) (hs : SAt h A m l) :
    Fn Try.prog 26 #[.slice A m cap] h fun v h' => h.le h' ∧ ∃ g trail T, v = .func (.func g) #[] (List.toArray trail) ∧ Iter Try.prog g [] trail T (expF l.fo) ∧ (∀ h h' : Hp, h.le h' → T h → T h') ∧ T (h'.sub h) := by
  refine Fn.intro (args := [.slice A m cap]) mix16 Try.func26 rfl (by decide) Try.ntmps26 rfl (low26 rfl) rfl ?_
  conv => whnf
  refine .done (.mk _ (check17 l hc A m cap h hs) ?_)
  rintro _ h1 ⟨hl1, rfl⟩
  conv => whnf
  refine br_dec (fun h2 => ?_) (fun h2 => ?_)
  · conv => whnf
    refine .done ⟨hl1, 45, [], fun _ => True, rfl, ?_, fun _ _ _ => id, trivial⟩
    unfold expF
    rw [if_neg h2]
    exact iter45
  · have h2 : checkF l.fo = 0 := Decidable.of_not_not h2
    obtain ⟨k1, k2⟩ := checkF_pos h2
    conv => whnf
    refine .done (.mk _ (own46 _ l (Nat.lt_succ_self _) hc A m cap h1 (hs.mono hl1)) ?_)
    rintro _ h3 ⟨hl3, D, c, lo, rfl, hD, hlo⟩
    have hcn : lo.cnt ≤ 200000 := by rw [← lo.fo_cnt, hlo, l.fo_cnt]; exact hc
    conv => whnf
    refine .mk fun b hb => ?_
    conv => whnf
    have hl4 : h3.le (h3.put b (.cells [Value.slice D m c].toArray 22 (0, 0))) := Hp.le_put hb
    refine .done ⟨Hp.le_trans hl1 (Hp.le_trans hl3 hl4), 47, [lptr b], T47 b D m c lo, rfl, ?_, T47.mono, ?_, hD.mono ?_⟩
    · unfold expF
      rw [if_pos h2, ← hlo]
      exact iter47 b D m c lo hcn (by rw [hlo]; exact k1) (by rw [hlo]; exact k2)
    · refine Hp.cell_le (h := (fun j => if j = b then some (.cells [Value.slice D m c].toArray 22 (0, 0)) else none)) (Hp.le_sub (fun j o e => ?_) fun j hj => ?_) ?_
      · split at e
        · rename_i hj; rw [hj, Hp.put_same]; exact e
        · cases e
      · simp only [ne_eq, ite_eq_right_iff, reduceCtorEq, imp_false, Decidable.not_not] at hj
        rw [hj]
        exact Hp.none_le (Hp.le_trans hl1 hl3) hb
      · unfold Hp.cell?; simp
    · refine Hp.le_sub (Hp.le_trans (Hp.sub_le _ _) hl4) fun j hj => Hp.none_le hl1 (Hp.sub_out hj)
/-- the list of a range, under way: its slice lies in block b -/
def Lst (h1 : Hp) (b : Nat) (pre : List Int) (h' : Hp) : Prop :=
  ∃ D n c, h1 b = none ∧ h1.le h' ∧ h' b = some (.cells [Value.slice D n c].toArray 35 (0, 0)) ∧ RowAt h' 3 1 D n c (pre.map iv) ∧ ∀ g, D = some g → h1 g.block = none
theorem Lst.nil {h1 : Hp} {b : Nat} (hb : h1 b = none) : Lst h1 b [] (h1.put b (.cells [Value.slice none 0 0].toArray 35 (0, 0))) :=
  ⟨none, 0, 0, hb, Hp.le_put hb, Hp.put_same _ _ _, ⟨rfl, .inl ⟨rfl, rfl, rfl⟩⟩, fun _ e => by cases e⟩
theorem lst_cell {h' : Hp} {b : Nat} {D : Option Addr} {n c : Nat} (q2 : h' b = some (.cells [Value.slice D n c].toArray 35 (0, 0))) : h'.cell? ⟨b, 0, none⟩ = some (.slice D n c) := by
  unfold Hp.cell?; simp [q2]
theorem lst_del {h' : Hp} {b : Nat} {D : Option Addr} {n c : Nat} {xs : List Value} (q2 : h' b = some (.cells [Value.slice D n c].toArray 35 (0, 0))) (q3 : RowAt h' 3 1 D n c xs) : delA h' D b = some (.cells [Value.slice D n c].toArray 35 (0, 0)) := by
  rcases q3.2 with ⟨q, _⟩ | ⟨g', cur, q, q5, _⟩
  · rw [q]; rw [q] at q2; exact q2
  · rw [q]
    have hne : b ≠ g' := fun e => by rw [e, q5] at q2; cases q2
    rw [delA, Hp.del_ne _ hne, ← q]; exact q2
theorem Lst.step {h1 h' h4 : Hp} {b : Nat} {D D2 : Option Addr} {n2 c2 : Nat} {pre : List Int} {x : Int} (hb : h1 b = none) (q1 : h1.le h') (q4 : ∀ g, D = some g → h1 g.block = none)
    (l4 : ((delA h' D).put b (.cells [Value.slice D2 n2 c2].toArray 35 (0, 0))).le h4) (hro : RowAt h4 3 1 D2 n2 c2 (pre.map iv ++ [iv x])) (hf : ∀ g, D2 = some g → ((delA h' D).put b (.cells [Value.slice D2 n2 c2].toArray 35 (0, 0))) g.block = none) : Lst h1 b (pre ++ [x]) h4 := by
  have hd := delA_none q1 q4
  refine ⟨D2, n2, c2, hb, fun j o ho => ?_, l4 _ _ (Hp.put_same _ _ _), by rw [List.map_append]; exact hro, fun gg e => ?_⟩
  · exact l4 _ _ (by rw [Hp.put_ne _ _ (fun e => by rw [e, hb] at ho; cases ho)]; exact hd j o ho)
  · have := hf gg e
    by_cases eb : gg.block = b
    · rw [eb]; exact hb
    · rw [Hp.put_ne _ _ eb] at this
      exact Hp.none_le hd this
theorem numsv_one (l : List Int) : ∀ u ∈ l.map iv, u.oneCell' = true := by
  intro u h
  obtain ⟨z, _, rfl⟩ := List.mem_map.1 h
  rfl
theorem pre_len {pre xs : List Int} {x : Int} (h : pre ++ [x] <+: xs) (hx : xs.length ≤ 2048) : pre.length < 2048 := by
  have := h.length_le
  simp at this; omega
theorem row_n {h : Hp} {ety n c : Nat} {D : Option Addr} {xs : List Int} (x : RowAt h ety 1 D n c (xs.map iv)) : n = xs.length := by
  have := x.1
  simp at this; omega
theorem expand22 (l : Lo) (hc : l.cnt ≤ 200000) (A : Option Addr) (m cap : Nat) (h : Hp) (hs : SAt h A m l) :
    Fn Try.prog 22 #[.slice A m cap] h fun v h' => h.le h' ∧ ∃ D n c, v = .tuple #[.slice D n c, iv (checkF l.fo)] ∧ RowAt h' 3 1 D n c ((expF l.fo).map iv) ∧ ∀ g, D = some g → h g.block = none := by
  have hlen := expF_len l.fo
  refine FnY.intro (args := [.slice A m cap]) Try.func22 rfl (by decide) Try.ntmps22 rfl (low22 rfl) rfl ?_
  conv => whnf
  refine .done (.mk _ (check17 l hc A m cap h hs) ?_)
  rintro _ h1 ⟨hl1, rfl⟩
  conv => whnf
  refine br_dec (fun h2 => ?_) (fun h2 => ?_)
  · conv => whnf
    refine .done ⟨hl1, none, 0, 0, rfl, ?_, fun _ e => by cases e⟩
    unfold expF
    rw [if_neg h2]
    exact ⟨rfl, .inl ⟨rfl, rfl, rfl⟩⟩
  · have h2 : checkF l.fo = 0 := Decidable.of_not_not h2
    rw [h2]
    conv => whnf
    refine .done (.mk _ (all26 l hc A m cap h1 (hs.mono hl1)) ?_)
    rintro _ h3 ⟨hl3, g, trail, T, rfl, hIt, hTm, hT⟩
    conv => whnf
    refine .mk [5] ?_
    conv => whnf
    refine .mk fun b hb => ?_
    conv => whnf
    refine .done (.mk T (expF l.fo) (Lst h3 b) (fun _ _ _ => False) hIt hTm rfl (Lst.nil hb) ?_ ?_ ?_ ?_)
    · rintro pre h' ⟨D, n, c, _, q1, _⟩
      exact hTm _ _ (Hp.le_trans (Hp.sub_le _ _) q1) hT
    · rintro e0 pre x h' ⟨D, n, c, hb, q1, q2, q3, q4⟩ hpx
      have hnl := row_n q3
      have hpl := pre_len hpx hlen
      conv => whnf
      refine .hp _ (lst_cell q2) ?_
      conv => whnf
      refine .abs 3 1 D n c _ q3 (.done (.old 1 _ [iv x] rfl rfl (numsv_one [x]) (by simp [maxLen]; omega) (by omega) fun D2 c2 hD2 => ?_))
      conv => whnf
      refine .hp b 0 35 [.slice D n c] [.slice D2 (n + 1) c2] rfl (lst_del q2 q3) rfl ?_
      conv => whnf
      exact .pub 1 3 1 D2 (n + 1) c2 _ rfl fun h4 l4 hro hf => .done (Lst.step hb q1 q4 l4 hro hf)
    · rintro h' ⟨D, n, c, hb, q1, q2, q3, q4⟩
      conv => whnf
      refine .hp _ (lst_cell q2) ?_
      conv => whnf
      exact .done ⟨Hp.le_trans hl1 (Hp.le_trans hl3 q1), D, n, c, rfl, q3, fun gg e => Hp.none_le (Hp.le_trans hl1 hl3) (q4 gg e)⟩
    · exact fun _ _ _ _ e => e.elim
end Go.Sx
