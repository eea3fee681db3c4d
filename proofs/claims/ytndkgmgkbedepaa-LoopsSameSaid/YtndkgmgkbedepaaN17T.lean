/- A nest gone through, yielding. Conditions: none. -/
import Derived.Test.YtndkgmgkbedepaaN17H
namespace Go.Sx
open Go.Proofs
set_option maxRecDepth 100000
def rep {α : Type} : Nat → List α → List α
  | 0, _ => []
  | k + 1, w => w ++ rep k w
def flat : Fo → List Int
  | .nil => []
  | .cons t n b r => rep t.toNat (bif b.leaf then [n] else flat b) ++ flat r
theorem rep_len {α : Type} (w : List α) : ∀ k, (rep k w).length = k * w.length
  | 0 => by simp [rep]
  | k + 1 => by rw [rep, List.length_append, rep_len w k, Nat.succ_mul]; omega
theorem flat_len : ∀ f : Fo, (flat f).length = tot f
  | .nil => rfl
  | .cons t n b r => by
    simp only [flat, tot, List.length_append, rep_len, flat_len r]
    cases b.leaf with
    | true => rfl
    | false => simp only [cond_false, flat_len b]
theorem tot_body {t n : Int} {b r : Fo} (hp : Pos (.cons t n b r)) {k : Nat} (ht : tot (.cons t n b r) ≤ k) : t.toNat ≤ k ∧ ins b ≤ k ∧ tot r ≤ k := by
  rw [tot_cons] at ht
  have h1 := ins_pos hp.2.1
  have q1 : t.toNat * 1 ≤ t.toNat * ins b := Nat.mul_le_mul_left _ h1
  have q2 : 1 * ins b ≤ t.toNat * ins b := Nat.mul_le_mul_right _ (by have := hp.1; omega)
  omega
def yv (l : Nat) : Value := .func (.yield l) #[] #[]
theorem pre_app {α : Type} {q w z xs : List α} (h : q ++ (w ++ z) <+: xs) : q ++ w <+: xs := List.IsPrefix.trans ⟨z, by simp⟩ h
theorem walk48 (l : Nat) (J Jx : List Int → Hp → Prop) (xs : List Int) (hY : ∀ pre x h, J pre h → pre ++ [x] <+: xs → Yd Try.prog l #[iv x] h fun v h' => (v = .bool true ∧ J (pre ++ [x]) h') ∨ (v = .bool false ∧ Jx (pre ++ [x]) h')) :
    ∀ (N : Nat) (lo : Lo), lo.cnt < N → lo.cnt ≤ 200000 → Pos lo.fo → tot lo.fo ≤ 2048 → ∀ (A : Option Addr) (m cap : Nat) (pre : List Int) (h : Hp), (∀ pre h, J pre h → SAt h A m lo) → J pre h → pre ++ flat lo.fo <+: xs →
    Fn Try.prog 54 #[.slice A m cap, yv l] h fun v h' => (v = .bool true ∧ J (pre ++ flat lo.fo) h') ∨ (v = .bool false ∧ ∃ p, p <+: xs ∧ Jx p h')
  | 0, lo, hN, _ => absurd hN (Nat.not_lt_zero _)
  | N + 1, lo, hN, hc0 => by
    intro hpos htot A m cap pre h hs hj hxs
    have hm : m ≤ 200000 := by have := (hs _ _ hj).1; have := lo.len_cnt; omega
    refine FnY.intro (args := [.slice A m cap, yv l]) Try.func54 rfl (by decide) Try.ntmps54 rfl (low54 rfl) rfl ?_
    conv => whnf
    refine .base (.mk (Nat × List Int × Lo) [1, 7, 8, 9] (fun (i, _, _) => [.v (yv l), .v (.slice A m cap), .v (iv m), .v (iv i)]) (fun _ => [])
        (fun (i, q, r) h' => J q h' ∧ (∀ pre h, J pre h → Tl h A m i r) ∧ r.cnt ≤ lo.cnt ∧ Pos r.fo ∧ tot r.fo ≤ 2048 ∧ q ++ flat r.fo = pre ++ flat lo.fo) (fun (i, _, _) => m - i) (0, pre, lo) (fun _ => rfl) ⟨hj, fun pre h hj => (hs pre h hj).tl, Nat.le_refl _, hpos, htot, rfl⟩ rfl rfl ?_)
    rintro ⟨i, q, r⟩ e h' ⟨hj, ht, hrl, hp, htt, he⟩
    conv => whnf
    refine br_dec (fun h2 => ?_) (fun h2 => ?_)
    · cases r with
      | nil => have := (ht _ _ hj).fin; omega
      | cons t w B m' cc b r =>
        obtain ⟨g, hA, hi, hc, hb, hr⟩ := (ht _ _ hj).open
        have htb : ∀ pre h, J pre h → SAt h B m' b := fun pre h hj => by
          obtain ⟨_, _, _, _, hb, _⟩ := (ht _ _ hj).open
          exact hb
        have htr : ∀ pre h, J pre h → Tl h A m (i + 1) r := fun pre h hj => by
          obtain ⟨_, _, _, _, _, hr⟩ := (ht _ _ hj).open
          exact hr
        have hbm := hb.1
        simp only [Lo.cnt] at hrl
        simp only [Lo.fo] at hp htt he
        obtain ⟨b1, b2, b3⟩ := tot_body hp htt
        obtain ⟨hp1, hp2, hp3⟩ := hp
        obtain ⟨z, rfl⟩ : ∃ z : Nat, t = z := ⟨t.toNat, by omega⟩
        rw [Int.toNat_natCast] at b1
        have hlf := b.leaf_len
        obtain ⟨inner, hin⟩ : ∃ inner, inner = bif b.fo.leaf then [w] else flat b.fo := ⟨_, rfl⟩
        simp only [flat, Int.toNat_natCast] at he
        rw [← hin] at he
        conv => whnf
        refine .mk g hA (by omega) (by omega) ?_
        conv => whnf
        refine .hp (lcells z w B m' cc) rfl (by rw [Int.toNat_natCast]; exact hc) ?_
        conv => whnf
        refine .base (.mk (Nat × List Int) [1, 6, 7, 8, 9, 14, 15] (fun (k, _) => [.v (yv l), .p 0 0, .v (.slice A m cap), .v (iv m), .v (iv i), .v (iv z), .v (iv k)]) (fun _ => [.own ((lcells z w B m' cc).map .v) 41])
          (fun (k, q) h' => J q h' ∧ k ≤ z ∧ q ++ (rep (z - k) inner ++ flat r.fo) = pre ++ flat lo.fo) (fun (k, _) => z - k) (0, q) (fun _ => rfl) ⟨hj, Nat.zero_le _, he⟩ rfl rfl ?_)
        rintro ⟨k, q⟩ e h' ⟨hj, hk, he⟩
        conv => whnf
        refine br_dec (fun h3 => ?_) (fun h3 => ?_)
        · have hkz : k < z := by omega
          rw [show z - k = (z - (k + 1)) + 1 by omega, rep, List.append_assoc] at he
          have hq : q ++ inner <+: xs := pre_app (by rw [he]; exact hxs)
          rw [← List.append_assoc] at he
          conv => whnf
          refine br_dec (fun h4 => ?_) (fun h4 => ?_)
          · have hlf2 : b.fo.leaf = false := by rw [hlf]; exact decide_eq_false (by omega)
            rw [hlf2, cond_false] at hin
            subst hin
            have hbt : tot b.fo ≤ 2048 := by unfold ins at b2; rw [hlf2, cond_false] at b2; exact b2
            conv => whnf
            refine .done (.mk _ (walk48 l J Jx xs hY N b (by omega) (by omega) hp2 hbt B m' cc q h' htb hj hq) ?_)
            rintro _ h2 (⟨rfl, hj2⟩ | ⟨rfl, p, hp, hj2⟩)
            · conv => whnf
              refine .ok (by omega) (by omega) ?_
              conv => whnf
              exact ⟨(k + 1, _), rfl, rfl, ⟨hj2, hkz, he⟩, by show z - (k + 1) < z - k; omega⟩
            · conv => whnf
              exact .done (.inr ⟨rfl, p, hp, hj2⟩)
          · have hlf2 : b.fo.leaf = true := by rw [hlf]; exact decide_eq_true (by omega)
            rw [hlf2, cond_true] at hin
            subst hin
            conv => whnf
            refine .done (.mk _ (hY q w h' hj hq) ?_)
            rintro _ h2 (⟨rfl, hj2⟩ | ⟨rfl, hj2⟩)
            · conv => whnf
              refine .ok (by omega) (by omega) ?_
              conv => whnf
              exact ⟨(k + 1, _), rfl, rfl, ⟨hj2, hkz, he⟩, by show z - (k + 1) < z - k; omega⟩
            · conv => whnf
              exact .done (.inr ⟨rfl, _, hq, hj2⟩)
        · obtain rfl : k = z := by omega
          rw [Nat.sub_self, rep, List.nil_append] at he
          conv => whnf
          refine .ok (by omega) (by omega) ?_
          conv => whnf
          exact ⟨(i + 1, q, r), rfl, rfl, ⟨hj, htr, by omega, hp3, b3, he⟩, by show m - (i + 1) < m - i; omega⟩
    · conv => whnf
      cases r with
      | nil =>
        rw [← he]
        refine .done (.inl ⟨rfl, ?_⟩)
        rw [show q ++ flat Lo.nil.fo = q from List.append_nil q]
        exact hj
      | cons => obtain ⟨g, hA, hi, _⟩ := (ht _ _ hj).open; omega
end Go.Sx
namespace Go.Sx
open Go.Proofs
set_option maxRecDepth 100000
theorem iter45 : Iter Try.prog 51 [] [] (fun _ => True) [] := by
  intro l J Jx _ _ h hj
  refine Fn.intro (args := [yv l]) mix16 Try.func51 rfl (by decide) Try.ntmps51 rfl (low51 rfl) rfl ?_
  conv => whnf
  exact .done (.inl hj)
def T47 (cb : Nat) (A : Option Addr) (m cap : Nat) (lo : Lo) (h : Hp) : Prop := h.cell? ⟨cb, 0, none⟩ = some (.slice A m cap) ∧ SAt h A m lo
theorem T47.mono {cb : Nat} {A : Option Addr} {m cap : Nat} {lo : Lo} : ∀ h h' : Hp, h.le h' → T47 cb A m cap lo h → T47 cb A m cap lo h' := fun _ _ x ⟨a, b⟩ => ⟨Hp.cell_le x a, b.mono x⟩
theorem iter47 (cb : Nat) (A : Option Addr) (m cap : Nat) (lo : Lo) (hc : lo.cnt ≤ 200000) (hp : Pos lo.fo) (ht : tot lo.fo ≤ 2048) : Iter Try.prog 53 [] [lptr cb] (T47 cb A m cap lo) (flat lo.fo) := by
  intro l J Jx hT hY h hj
  refine Fn.intro (args := [yv l, lptr cb]) mix16 Try.func53 rfl (by decide) Try.ntmps53 rfl (low53 rfl) rfl ?_
  conv => whnf
  refine .hp _ (hT _ _ hj).1 ?_
  conv => whnf
  refine .done (.mk _ (walk48 l J Jx (flat lo.fo) hY _ lo (Nat.lt_succ_self _) hc hp ht A m cap [] h (fun pre h hj => (hT _ _ hj).2) hj (List.prefix_refl _)) ?_)
  rintro _ h2 (⟨rfl, hj2⟩ | ⟨rfl, p, hp, hj2⟩)
  · conv => whnf
    exact .done (.inl hj2)
  · conv => whnf
    exact .done (.inr ⟨p, hp, hj2⟩)
/-- what is ranged over -/
def expF (f : Fo) : List Int := if checkF f = 0 then flat f else []
theorem checkF_pos {f : Fo} (h : checkF f = 0) : Pos f ∧ tot f ≤ 2048 := by
  obtain ⟨h1, h2⟩ := checkF_ok h
  exact ⟨findF_pos _ _ _ h1, h2⟩
theorem expF_len (f : Fo) : (expF f).length ≤ 2048 := by
  unfold expF
  split
  · rename_i h; rw [flat_len]; exact (checkF_pos h).2
  · exact Nat.zero_le _
theorem all26 (l : Lo) (hc : l.cnt ≤ 200000) (A : Option Addr) (m cap : Nat) (h : Hp) (hs : SAt h A m l) :
    Fn Try.prog 42 #[.slice A m cap] h fun v h' => h.le h' ∧ ∃ g trail T, v = .func (.func g) #[] (List.toArray trail) ∧ Iter Try.prog g [] trail T (expF l.fo) ∧ (∀ h h' : Hp, h.le h' → T h → T h') ∧ T (h'.sub h) := by
  refine Fn.intro (args := [.slice A m cap]) mix16 Try.func42 rfl (by decide) Try.ntmps42 rfl (low42 rfl) rfl ?_
  conv => whnf
  refine .done (.mk _ (check17 l hc A m cap h hs) ?_)
  rintro _ h1 ⟨hl1, rfl⟩
  conv => whnf
  refine br_dec (fun h2 => ?_) (fun h2 => ?_)
  · conv => whnf
    refine .done ⟨hl1, 51, [], fun _ => True, rfl, ?_, fun _ _ _ => id, trivial⟩
    unfold expF
    rw [if_neg h2]
    exact iter45
  · have h2 : checkF l.fo = 0 := Decidable.of_not_not h2
    obtain ⟨k1, k2⟩ := checkF_pos h2
    conv => whnf
    refine .done (.mk _ (own46 _ l (Nat.lt_succ_self _) hc A m cap h1 (hs.mono hl1)) ?_)
    rintro _ h3 ⟨hl3, D, c, lo, rfl, hD, hlo⟩
    have hcn : lo.cnt ≤ 200000 := by rw [← lo.fo_cnt, hlo, l.fo_cnt]; exact hc
    conv => whnf
    refine .mk fun b hb => ?_
    conv => whnf
    have hl4 : h3.le (h3.put b (.cells [Value.slice D m c].toArray 22 (0, 0))) := Hp.le_put hb
    refine .done ⟨Hp.le_trans hl1 (Hp.le_trans hl3 hl4), 53, [lptr b], T47 b D m c lo, rfl, ?_, T47.mono, ?_, hD.mono ?_⟩
    · unfold expF
      rw [if_pos h2, ← hlo]
      exact iter47 b D m c lo hcn (by rw [hlo]; exact k1) (by rw [hlo]; exact k2)
    · refine Hp.cell_le (h := (fun j => if j = b then some (.cells [Value.slice D m c].toArray 22 (0, 0)) else none)) (Hp.le_sub (fun j o e => ?_) fun j hj => ?_) ?_
      · split at e
        · rename_i hj; rw [hj, Hp.put_same]; exact e
        · cases e
      · simp only [ne_eq, ite_eq_right_iff, reduceCtorEq, imp_false, Decidable.not_not] at hj
        rw [hj]
        exact Hp.none_le (Hp.le_trans hl1 hl3) hb
      · unfold Hp.cell?; simp
    · refine Hp.le_sub (Hp.le_trans (Hp.sub_le _ _) hl4) fun j hj => Hp.none_le hl1 (Hp.sub_out hj)
/-- the list of a range, under way: its slice lies in block b -/
def Lst (h1 : Hp) (b : Nat) (pre : List Int) (h' : Hp) : Prop :=
  ∃ D n c, h1 b = none ∧ h1.le h' ∧ h' b = some (.cells [Value.slice D n c].toArray 32 (0, 0)) ∧ RowAt h' 3 1 D n c (pre.map iv) ∧ ∀ g, D = some g → h1 g.block = none
theorem Lst.nil {h1 : Hp} {b : Nat} (hb : h1 b = none) : Lst h1 b [] (h1.put b (.cells [Value.slice none 0 0].toArray 32 (0, 0))) :=
  ⟨none, 0, 0, hb, Hp.le_put hb, Hp.put_same _ _ _, ⟨rfl, .inl ⟨rfl, rfl, rfl⟩⟩, fun _ e => by cases e⟩
theorem lst_cell {h' : Hp} {b : Nat} {D : Option Addr} {n c : Nat} (q2 : h' b = some (.cells [Value.slice D n c].toArray 32 (0, 0))) : h'.cell? ⟨b, 0, none⟩ = some (.slice D n c) := by
  unfold Hp.cell?; simp [q2]
theorem lst_del {h' : Hp} {b : Nat} {D : Option Addr} {n c : Nat} {xs : List Value} (q2 : h' b = some (.cells [Value.slice D n c].toArray 32 (0, 0))) (q3 : RowAt h' 3 1 D n c xs) : delA h' D b = some (.cells [Value.slice D n c].toArray 32 (0, 0)) := by
  rcases q3.2 with ⟨q, _⟩ | ⟨g', cur, q, q5, _⟩
  · rw [q]; rw [q] at q2; exact q2
  · rw [q]
    have hne : b ≠ g' := fun e => by rw [e, q5] at q2; cases q2
    rw [delA, Hp.del_ne _ hne, ← q]; exact q2
theorem Lst.step {h1 h' h4 : Hp} {b : Nat} {D D2 : Option Addr} {n2 c2 : Nat} {pre : List Int} {x : Int} (hb : h1 b = none) (q1 : h1.le h') (q4 : ∀ g, D = some g → h1 g.block = none)
    (l4 : ((delA h' D).put b (.cells [Value.slice D2 n2 c2].toArray 32 (0, 0))).le h4) (hro : RowAt h4 3 1 D2 n2 c2 (pre.map iv ++ [iv x])) (hf : ∀ g, D2 = some g → ((delA h' D).put b (.cells [Value.slice D2 n2 c2].toArray 32 (0, 0))) g.block = none) : Lst h1 b (pre ++ [x]) h4 := by
  have hd := delA_none q1 q4
  refine ⟨D2, n2, c2, hb, fun j o ho => ?_, l4 _ _ (Hp.put_same _ _ _), by rw [List.map_append]; exact hro, fun gg e => ?_⟩
  · exact l4 _ _ (by rw [Hp.put_ne _ _ (fun e => by rw [e, hb] at ho; cases ho)]; exact hd j o ho)
  · have := hf gg e
    by_cases eb : gg.block = b
    · rw [eb]; exact hb
    · rw [Hp.put_ne _ _ eb] at this
      exact Hp.none_le hd this
theorem numsv_one (l : List Int) : ∀ u ∈ l.map iv, u.oneCell' = true := by
  intro u h
  obtain ⟨z, _, rfl⟩ := List.mem_map.1 h
  rfl
theorem pre_len {pre xs : List Int} {x : Int} (h : pre ++ [x] <+: xs) (hx : xs.length ≤ 2048) : pre.length < 2048 := by
  have := h.length_le
  simp at this; omega
theorem row_n {h : Hp} {ety n c : Nat} {D : Option Addr} {xs : List Int} (x : RowAt h ety 1 D n c (xs.map iv)) : n = xs.length := by
  have := x.1
  simp at this; omega
theorem expand22 (l : Lo) (hc : l.cnt ≤ 200000) (A : Option Addr) (m cap : Nat) (h : Hp) (hs : SAt h A m l) :
    Fn Try.prog 24 #[.slice A m cap] h fun v h' => h.le h' ∧ ∃ D n c, v = .tuple #[.slice D n c, iv (checkF l.fo)] ∧ RowAt h' 3 1 D n c ((expF l.fo).map iv) ∧ ∀ g, D = some g → h g.block = none := by
  have hlen := expF_len l.fo
  refine FnY.intro (args := [.slice A m cap]) Try.func24 rfl (by decide) Try.ntmps24 rfl (low24 rfl) rfl ?_
  conv => whnf
  refine .done (.mk _ (check17 l hc A m cap h hs) ?_)
  rintro _ h1 ⟨hl1, rfl⟩
  conv => whnf
  refine br_dec (fun h2 => ?_) (fun h2 => ?_)
  · conv => whnf
    refine .done ⟨hl1, none, 0, 0, rfl, ?_, fun _ e => by cases e⟩
    unfold expF
    rw [if_neg h2]
    exact ⟨rfl, .inl ⟨rfl, rfl, rfl⟩⟩
  · have h2 : checkF l.fo = 0 := Decidable.of_not_not h2
    rw [h2]
    conv => whnf
    refine .done (.mk _ (all26 l hc A m cap h1 (hs.mono hl1)) ?_)
    rintro _ h3 ⟨hl3, g, trail, T, rfl, hIt, hTm, hT⟩
    conv => whnf
    refine .mk [5] ?_
    conv => whnf
    refine .mk fun b hb => ?_
    conv => whnf
    refine .done (.mk T (expF l.fo) (Lst h3 b) (fun _ _ _ => False) hIt hTm rfl (Lst.nil hb) ?_ ?_ ?_ ?_)
    · rintro pre h' ⟨D, n, c, _, q1, _⟩
      exact hTm _ _ (Hp.le_trans (Hp.sub_le _ _) q1) hT
    · rintro e0 pre x h' ⟨D, n, c, hb, q1, q2, q3, q4⟩ hpx
      have hnl := row_n q3
      have hpl := pre_len hpx hlen
      conv => whnf
      refine .hp _ (lst_cell q2) ?_
      conv => whnf
      refine .abs 3 1 D n c _ q3 (.done (.old 1 _ [iv x] rfl rfl (numsv_one [x]) (by simp [maxLen]; omega) (by omega) fun D2 c2 hD2 => ?_))
      conv => whnf
      refine .hp b 0 32 [.slice D n c] [.slice D2 (n + 1) c2] rfl (lst_del q2 q3) rfl ?_
      conv => whnf
      exact .pub 1 3 1 D2 (n + 1) c2 _ rfl fun h4 l4 hro hf => .done (Lst.step hb q1 q4 l4 hro hf)
    · rintro h' ⟨D, n, c, hb, q1, q2, q3, q4⟩
      conv => whnf
      refine .hp _ (lst_cell q2) ?_
      conv => whnf
      exact .done ⟨Hp.le_trans hl1 (Hp.le_trans hl3 q1), D, n, c, rfl, q3, fun gg e => Hp.none_le (Hp.le_trans hl1 hl3) (q4 gg e)⟩
    · exact fun _ _ _ _ e => e.elim
end Go.Sx
namespace Go.Sx
open Go.Proofs
set_option maxRecDepth 100000
/-- a list under way -/
structure Row (h h' : Hp) (D : Option Addr) (n c : Nat) (q : List Int) : Prop where
  le : h.le h'
  row : RowAt h' 3 1 D n c (q.map iv)
  fr : ∀ g, D = some g → h g.block = none
theorem Row.nil (h : Hp) : Row h h none 0 0 [] := ⟨Hp.le_refl h, ⟨rfl, .inl ⟨rfl, rfl, rfl⟩⟩, fun _ e => by cases e⟩
theorem Row.n {h h' : Hp} {D : Option Addr} {n c : Nat} {q : List Int} (x : Row h h' D n c q) : n = q.length := row_n x.row
theorem Row.step {h h' h2 h3 : Hp} {D D2 : Option Addr} {n c n2 c2 : Nat} {q w : List Int} (x : Row h h' D n c q) (l2 : h'.le h2) (l3 : (delA h2 D).le h3) (hr : RowAt h3 3 1 D2 n2 c2 (q.map iv ++ w.map iv)) (hf : ∀ g, D2 = some g → delA h2 D g.block = none) : Row h h3 D2 n2 c2 (q ++ w) := by
  have hA : h.le (delA h2 D) := delA_none (Hp.le_trans x.le l2) x.fr
  exact ⟨Hp.le_trans hA l3, by rw [List.map_append]; exact hr, fun g e => Hp.none_le hA (hf g e)⟩
theorem RowAt.del {h : Hp} {ety size n cap : Nat} {A B : Option Addr} {xs : List Value} (x : RowAt h ety size A n cap xs) (hd : ∀ g g', A = some g → B = some g' → g.block ≠ g'.block) : RowAt (delA h B) ety size A n cap xs := by
  obtain ⟨h1, h2⟩ := x
  refine ⟨h1, ?_⟩
  rcases h2 with h2 | ⟨b, cur, e1, e2, e3⟩
  · exact .inl h2
  · refine .inr ⟨b, cur, e1, ?_, e3⟩
    cases B with
    | none => exact e2
    | some g' => rw [delA, Hp.del_ne _ (hd _ g' e1 rfl)]; exact e2
theorem RowAt.mem {h : Hp} {ety size n cap : Nat} {A : Option Addr} {xs : List Value} (x : RowAt h ety size A n cap xs) {g : Addr} (hg : A = some g) : h g.block ≠ none := by
  rcases x.2 with ⟨h1, _⟩ | ⟨b, cur, h1, h2, _⟩
  · rw [hg] at h1; cases h1
  · rw [hg] at h1; injection h1 with h1; subst h1; rw [h2]; simp
theorem flat_nums (q : List Int) : (q.map fun z => [iv z]).flatten = q.map iv := by induction q with
  | nil => rfl
  | cons z q ih => simp_all
theorem RowAt.nums {h : Hp} {n c : Nat} {D : Option Addr} {q : List Int} (x : RowAt h 3 1 D n c (q.map iv)) : Tab h 1 D n (q.map fun z => [iv z]) := by
  refine RowAt.tab (ety := 3) (cap := c) ?_ (ints_wid q) (by decide)
  rw [flat_nums]; exact x
end Go.Sx
namespace Go.Sx
open Go.Proofs
set_option maxRecDepth 100000
theorem take_succ' {α : Type} {l : List α} {i : Nat} (hi : i < l.length) : l.take (i + 1) = l.take i ++ [l[i]] := by
  rw [List.take_append_getElem]
theorem le_none {a b : Hp} (x : a.le b) {j : Nat} (h : b j = none) : a j = none := by
  cases e : a j with
  | none => rfl
  | some o => rw [x j o e] at h; cases h
theorem mix14 : Try.prog.follows .mixedOrders = true := mix16
theorem over_one {α : Type} : ∀ (l : List α) (off : Nat) (v : α), off < l.length → over l off [v] = some (l.set off v)
  | [], off, v, h => by simp at h
  | x :: l, 0, v, _ => by cases l <;> simp [over]
  | x :: l, off + 1, v, h => by simp only [over, over_one l off v (by simpa using h), List.set_cons_succ]
theorem RowAt.write {h : Hp} {ety size n cap off : Nat} {A : Option Addr} {xs : List Value} (x : RowAt h ety size A n cap xs) (ho : off < n * size) (v : Value) :
    ∃ g cs cs', A = some ⟨g, 0, none⟩ ∧ h g = some (.cells cs.toArray ety (0, 0)) ∧ over cs off [v] = some cs' ∧ RowAt (h.put g (.cells cs'.toArray ety (0, 0))) ety size A n cap (xs.set off v) := by
  obtain ⟨h1, h2⟩ := x
  rcases h2 with ⟨_, h2, _⟩ | ⟨g, cur, q1, q2, q3, q4, q5, q6⟩
  · subst h2; omega
  · have hle : n * size ≤ cap * size := Nat.mul_le_mul_right size q3
    refine ⟨g, cur.toList, cur.toList.set off v, q1, by simpa using q2, over_one _ _ _ (by simp; omega), by simpa using h1, .inr ⟨g, (cur.toList.set off v).toArray, q1, Hp.put_same _ _ _, q3, q4, by simpa using q5, ?_⟩⟩
    rw [← q6]
    simp only [List.take_set]
theorem nums_one (l : List Int) : ∀ u ∈ l.map iv, u.oneCell' = true := by
  intro u hu
  obtain ⟨z, _, rfl⟩ := List.mem_map.1 hu
  rfl
def updJ {α : Type} (J : Nat → α) (v : Nat) (x : α) : Nat → α := fun u => if u = v then x else J u
open Classical in
noncomputable def Hp.on (h : Hp) (S : Nat → Prop) : Hp := fun j => if S j then h j else none
theorem Hp.on_le (h : Hp) (S : Nat → Prop) : (h.on S).le h := fun j o e => by
  unfold Hp.on at e; split at e
  · exact e
  · cases e
theorem Hp.on_of {h : Hp} {S : Nat → Prop} {j : Nat} (hj : S j) : h.on S j = h j := by unfold Hp.on; rw [if_pos hj]
theorem Hp.on_ne {h : Hp} {S : Nat → Prop} {j : Nat} (hj : h.on S j ≠ none) : S j := by
  unfold Hp.on at hj; split at hj
  · assumption
  · exact absurd rfl hj
theorem RowAt.on {h : Hp} {ety size n cap : Nat} {A : Option Addr} {xs : List Value} {S : Nat → Prop} (x : RowAt h ety size A n cap xs) (hS : ∀ g, A = some g → S g.block) : RowAt (h.on S) ety size A n cap xs := by
  obtain ⟨h1, h2⟩ := x
  refine ⟨h1, ?_⟩
  rcases h2 with h2 | ⟨b, cur, e1, e2, e3⟩
  · exact .inl h2
  · exact .inr ⟨b, cur, e1, by rw [Hp.on_of (hS _ e1)]; exact e2, e3⟩
theorem RowAt.one {n : Nat} {h : Hp} {A : Option Addr} {cap : Nat} {l : List Int} (x : RowAt h 3 1 A n cap (l.map iv)) : Tab h 1 A n (l.map fun z => [iv z]) := by
  rw [← flat_nums] at x; exact x.tab (ints_wid _) (by decide)
end Go.Sx
namespace Go.Sx
open Go.Proofs
set_option maxRecDepth 100000
/-- a row under way -/
structure Rw (ety size : Nat) (h h' : Hp) (D : Option Addr) (n c : Nat) (xs : List Value) : Prop where
  le : h.le h'
  row : RowAt h' ety size D n c xs
  fr : ∀ g, D = some g → h g.block = none
theorem Rw.nil (ety size : Nat) (h : Hp) : Rw ety size h h none 0 0 [] := ⟨Hp.le_refl h, ⟨by simp, .inl ⟨rfl, rfl, rfl⟩⟩, fun _ e => by cases e⟩
theorem Rw.step {ety size : Nat} {h h' h2 h3 : Hp} {D D2 : Option Addr} {n c n2 c2 : Nat} {q w : List Value} (x : Rw ety size h h' D n c q) (l2 : h'.le h2) (l3 : (delA h2 D).le h3) (hr : RowAt h3 ety size D2 n2 c2 (q ++ w)) (hf : ∀ g, D2 = some g → delA h2 D g.block = none) : Rw ety size h h3 D2 n2 c2 (q ++ w) := by
  have hA : h.le (delA h2 D) := delA_none (Hp.le_trans x.le l2) x.fr
  exact ⟨Hp.le_trans hA l3, hr, fun g e => Hp.none_le hA (hf g e)⟩
theorem Rw.put {ety size : Nat} {h h' : Hp} {D : Option Addr} {n c g : Nat} {q q' : List Value} {o : Obj} (x : Rw ety size h h' D n c q) (hD : D = some ⟨g, 0, none⟩) (hr : RowAt (h'.put g o) ety size D n c q') : Rw ety size h (h'.put g o) D n c q' :=
  ⟨fun j o' e => by
    have hg : h g = none := x.fr _ hD
    have : j ≠ g := fun q => by rw [q, hg] at e; cases e
    rw [Hp.put_ne _ _ this]; exact x.le j o' e, hr, x.fr⟩
abbrev Rn := Int × Nat
def rcell (r : Rn) : List Value := [iv r.1, iv r.2]
def rcells (l : List Rn) : List Value := (l.map rcell).flatten
theorem rcells_app (a b : List Rn) : rcells (a ++ b) = rcells a ++ rcells b := by simp [rcells]
theorem rcells_len (a : List Rn) : (rcells a).length = a.length * 2 := by
  induction a with
  | nil => rfl
  | cons x a ih => simp [rcells, rcell] at ih ⊢; omega
theorem rcells_one (a : List Rn) : ∀ u ∈ rcells a, u.oneCell' = true := by
  intro u hu
  simp only [rcells, List.mem_flatten, List.mem_map] at hu
  obtain ⟨_, ⟨r, _, rfl⟩, hu⟩ := hu
  simp only [rcell, List.mem_cons, List.not_mem_nil, or_false] at hu
  rcases hu with rfl | rfl <;> rfl
def runsR : List Int → List Rn
  | [] => []
  | x :: l => match runsR l with
    | (y, k) :: r => if y = x then (x, k + 1) :: r else (x, 1) :: (y, k) :: r
    | [] => [(x, 1)]
theorem runsR_head : ∀ l : List Int, (runsR l).head?.map (·.1) = l.head?
  | [] => rfl
  | x :: l => by
    simp only [runsR]
    split
    · split <;> rfl
    · rfl
theorem runsR_len : ∀ l : List Int, (runsR l).length ≤ l.length
  | [] => Nat.le_refl _
  | x :: l => by
    have := runsR_len l
    simp only [runsR]
    split
    · rename_i h
      rw [h] at this
      split <;> simp_all <;> omega
    · simp
theorem runsR_rep (x : Int) (t : List Int) (ht : t.head? ≠ some x) : ∀ k : Nat, runsR (List.replicate (k + 1) x ++ t) = (x, k + 1) :: runsR t
  | 0 => by
    have := runsR_head t
    show runsR (x :: t) = _
    simp only [runsR]
    split
    · rename_i y k r h
      rw [h] at this
      simp only [List.head?_cons, Option.map_some] at this
      rw [if_neg (fun e => ht (by rw [← this, e])), h]
    · rename_i h; rw [h]
  | k + 1 => by
    rw [List.replicate_succ, List.cons_append, runsR, runsR_rep x t ht k]
    simp
theorem drop_at {l : List Int} {i : Nat} (hi : i < l.length) : l.drop i = l[i] :: l.drop (i + 1) := List.drop_eq_getElem_cons hi
theorem head_drop (l : List Int) (i : Nat) : (l.drop i).head? = l[i]? := by simp [List.head?_drop]
theorem runs29 (D : Option Addr) (n cap : Nat) (l : List Int) (h : Hp) (hz : Tab h 1 D n (l.map fun z => [iv z])) (hn : n ≤ 8796093022207) :
    Fn Try.prog 29 #[.slice D n cap] h fun v h' => ∃ E m c, v = .slice E m c ∧ m = (runsR l).length ∧ Rw 68 2 h h' E m c (rcells (runsR l)) := by
  have hl : l.length = n := by simpa using hz.len
  have hrl := runsR_len l
  refine Fn.intro (args := [.slice D n cap]) mix16 Try.func29 rfl (by decide) Try.ntmps29 rfl (low29 rfl) rfl ?_
  conv => whnf
  refine .mkS [] (Nat × Option Addr × Nat × Nat × List Rn) [0, 3, 4] (fun (i, E, m, c, _) => [.v (.slice D n cap), .v (.slice E m c), .v (iv i)]) (fun _ => [])
    (fun (i, E, m, c, q) h' => i ≤ n ∧ m = q.length ∧ Rw 68 2 h h' E m c (rcells q) ∧ q ++ runsR (l.drop i) = runsR l) (fun (i, _, _, _, _) => n - i) (0, none, 0, 0, []) (fun _ => rfl) ⟨Nat.zero_le _, rfl, Rw.nil 68 2 h, rfl⟩ rfl rfl rfl ?_
  rintro ⟨i, E, m, c, q⟩ e h' ⟨hi, hm, hq, he⟩
  refine .done ?_
  conv => whnf
  refine br_dec (fun h1 => ?_) (fun h1 => ?_)
  · have hi' : i < l.length := by omega
    obtain ⟨g, hg⟩ := hz.ad (by omega)
    have at_ : ∀ (h' : Hp) (k : Nat) (hk : k < l.length), h.le h' → h'.cell? (g.add (k * 1)) = some (iv l[k]) := fun h' k hk x => by
      exact (hz.mono x).one hg (map_get hk) rfl
    conv => whnf
    refine .mkS [] Nat [0, 3, 4, 5] (fun k => [.v (.slice D n cap), .v (.slice E m c), .v (iv i), .v (iv k)]) (fun _ => [])
      (fun k h' => i ≤ k ∧ k ≤ n ∧ Rw 68 2 h h' E m c (rcells q) ∧ l.drop i = List.replicate (k - i) l[i] ++ l.drop k) (fun k => n - k) i (fun _ => rfl) ⟨Nat.le_refl _, hi, hq, by rw [Nat.sub_self]; rfl⟩ rfl rfl rfl ?_
    rintro k e h' ⟨hk1, hk2, hq, hd⟩
    refine .done ?_
    have fin : l[k]? ≠ some l[i] → i < k → q ++ ((l[i], k - i) :: runsR (l.drop k)) = runsR l := fun hne hik => by
      rw [← he, hd, show k - i = (k - i - 1) + 1 by omega, runsR_rep _ _ (by rw [head_drop]; exact hne)]
    conv => whnf
    refine br_dec (fun h2 => ?_) (fun h2 => ?_)
    · have hk' : k < l.length := by omega
      conv => whnf
      refine .mk g hg (by omega) (by omega) ?_
      conv => whnf
      refine .hp _ (by rw [Int.toNat_natCast]; exact at_ h' k hk' hq.le) ?_
      conv => whnf
      refine .mk g hg (by omega) (by omega) ?_
      conv => whnf
      refine .hp _ (by rw [Int.toNat_natCast]; exact at_ h' i hi' hq.le) ?_
      conv => whnf
      refine br_dec (fun h3 => ?_) (fun h3 => ?_)
      · conv => whnf
        refine .ok (by omega) (by omega) ?_
        conv => whnf
        refine .done ⟨k + 1, rfl, rfl, ⟨by omega, by omega, hq, ?_⟩, by omega⟩
        rw [hd, drop_at hk', h3, show k + 1 - i = (k - i) + 1 by omega, List.replicate_succ', List.append_assoc]
        rfl
      · have hik : i < k := by
          rcases Nat.lt_or_ge i k with h4 | h4
          · exact h4
          · obtain rfl : i = k := by omega
            exact absurd rfl h3
        have hf := fin (by rw [List.getElem?_eq_getElem hk']; intro e; injection e with e; exact h3 e) hik
        conv => whnf
        refine .mk g hg (by omega) (by omega) ?_
        conv => whnf
        refine .hp _ (by rw [Int.toNat_natCast]; exact at_ h' i hi' hq.le) ?_
        conv => whnf
        refine .ok (by omega) (by omega) ?_
        rw [show (k : Int) - (i : Int) = ((k - i : Nat) : Int) by omega]
        have hql : q.length ≤ n := by
          have := congrArg List.length hf
          simp at this; omega
        conv => whnf
        refine .abs 68 2 E m c _ hq.row (.done (.old 1 _ (rcell (l[i], k - i)) rfl rfl (by intro u hu; simp only [rcell, List.mem_cons, List.not_mem_nil, or_false] at hu; rcases hu with rfl | rfl <;> rfl) (by simp [maxLen]; omega) (by omega) fun E2 c2 hE2 => ?_))
        conv => whnf
        refine .pub 1 68 2 E2 (m + 1) c2 _ rfl fun h4 l4 hro hfr => .done ⟨(k, E2, m + 1, c2, q ++ [(l[i], k - i)]), rfl, rfl, ⟨hk2, by simp [hm], ?_, by rw [List.append_assoc]; exact hf⟩, by show n - k < n - i; omega⟩
        rw [rcells_app]
        exact hq.step (Hp.le_refl _) l4 hro hfr
    · obtain rfl : k = n := by omega
      have hf := fin (by rw [List.getElem?_eq_none (by omega)]; simp) (by omega)
      conv => whnf
      refine .mk g hg (by omega) (by omega) ?_
      conv => whnf
      refine .hp _ (by rw [Int.toNat_natCast]; exact at_ h' i hi' hq.le) ?_
      conv => whnf
      refine .ok (by omega) (by omega) ?_
      rw [show (k : Int) - (i : Int) = ((k - i : Nat) : Int) by omega]
      have hql : q.length ≤ k := by
        have := congrArg List.length hf
        simp at this; omega
      conv => whnf
      refine .abs 68 2 E m c _ hq.row (.done (.old 1 _ (rcell (l[i], k - i)) rfl rfl (by intro u hu; simp only [rcell, List.mem_cons, List.not_mem_nil, or_false] at hu; rcases hu with rfl | rfl <;> rfl) (by simp [maxLen]; omega) (by omega) fun E2 c2 hE2 => ?_))
      conv => whnf
      refine .pub 1 68 2 E2 (m + 1) c2 _ rfl fun h4 l4 hro hfr => .done ⟨(k, E2, m + 1, c2, q ++ [(l[i], k - i)]), rfl, rfl, ⟨hk2, by simp [hm], ?_, by rw [List.append_assoc]; exact hf⟩, by show k - k < k - i; omega⟩
      rw [rcells_app]
      exact hq.step (Hp.le_refl _) l4 hro hfr
  · obtain rfl : i = n := by omega
    rw [List.drop_of_length_le (by omega)] at he
    have hqr : q = runsR l := by rw [← he]; simp [runsR]
    rw [hqr] at hq hm
    conv => whnf
    exact .done ⟨E, m, c, rfl, hm, hq⟩
end Go.Sx
namespace Go.Sx
open Go.Proofs
set_option maxRecDepth 100000
theorem rc_wid (l : List Rn) : ∀ r ∈ l.map rcell, r.length = 2 := by
  intro r hr
  obtain ⟨a, _, rfl⟩ := List.mem_map.1 hr
  rfl
theorem Rw.tab {h h' : Hp} {D : Option Addr} {m c : Nat} {q : List Rn} (x : Rw 68 2 h h' D m c (rcells q)) : Tab h' 2 D m (q.map rcell) := x.row.tab (rc_wid q) (by decide)
theorem rc_last (p : List Rn) (y : Int) (k : Nat) (v : Value) : (rcells (p ++ [(y, k)])).set (p.length * 2 + 1) v = rcells p ++ [iv y, v] := by
  rw [rcells_app, List.set_append_right _ _ (by rw [rcells_len]; omega), rcells_len, show p.length * 2 + 1 - p.length * 2 = 1 by omega]
  rfl
theorem runs30 (D : Option Addr) (n cap : Nat) (l : List Int) (h : Hp) (hz : Tab h 1 D n (l.map fun z => [iv z])) (hn : n ≤ 8796093022207) :
    Fn Try.prog 39 #[.slice D n cap] h fun v h' => ∃ E m c, v = .slice E m c ∧ m = (runsR l).length ∧ Rw 68 2 h h' E m c (rcells (runsR l)) := by
  have hl : l.length = n := by simpa using hz.len
  have hrl := runsR_len l
  refine Fn.intro (args := [.slice D n cap]) mix16 Try.func39 rfl (by decide) Try.ntmps39 rfl (low39 rfl) rfl ?_
  conv => whnf
  refine .mkS [] (Nat × Option Addr × Nat × Nat × List Rn) [0, 3, 4] (fun (i, E, m, c, _) => [.v (.slice D n cap), .v (.slice E m c), .v (iv i)]) (fun _ => [])
    (fun (i, E, m, c, q) h' => i ≤ n ∧ m = q.length ∧ Rw 68 2 h h' E m c (rcells q) ∧ ((i = 0 ∧ q = []) ∨ ∃ p y k, 0 < i ∧ l[i - 1]? = some y ∧ q = p ++ [(y, k + 1)] ∧ k < i ∧ runsR l = p ++ runsR (List.replicate (k + 1) y ++ l.drop i))) (fun (i, _, _, _, _) => n - i) (0, none, 0, 0, []) (fun _ => rfl) ⟨Nat.zero_le _, rfl, Rw.nil 68 2 h, .inl ⟨rfl, rfl⟩⟩ rfl rfl rfl ?_
  rintro ⟨i, E, m, c, q⟩ e h' ⟨hi, hm, hq, he⟩
  refine .done ?_
  have hql : m ≤ n := by
    rcases he with ⟨_, rfl⟩ | ⟨p, y, k, h1, h2, rfl, h4, h5⟩
    · rw [hm]; exact Nat.zero_le _
    · have h6 := congrArg List.length h5
      have h7 : 1 ≤ (runsR (List.replicate (k + 1) y ++ l.drop i)).length := by
        rw [List.replicate_succ, List.cons_append, runsR]
        split
        · split <;> simp
        · simp
      rw [List.length_append] at h6
      rw [hm]
      simp only [List.length_append, List.length_cons, List.length_nil]
      omega
  conv => whnf
  refine br_dec (fun h1 => ?_) (fun h1 => ?_)
  · have hi' : i < l.length := by omega
    obtain ⟨g, hg⟩ := hz.ad (by omega)
    have at_ : ∀ (h' : Hp) (k : Nat) (hk : k < l.length), h.le h' → h'.cell? (g.add (k * 1)) = some (iv l[k]) := fun h' k hk x => by
      exact (hz.mono x).one hg (map_get hk) rfl
    -- a new run
    have fresh : (l[i]'hi', 1) = (l[i], 0 + 1) ∧ (∀ p y k, 0 < i → l[i - 1]? = some y → q = p ++ [(y, k + 1)] → k < i → runsR l = p ++ runsR (List.replicate (k + 1) y ++ l.drop i) → y ≠ l[i] → runsR l = q ++ runsR (List.replicate (0 + 1) l[i] ++ l.drop (i + 1))) := ⟨rfl, fun p y k _ _ e3 _ e5 hne => by
      rw [e5, drop_at hi', runsR_rep y _ (by rw [List.head?_cons]; intro e; injection e with e; exact hne e.symm), e3, List.append_assoc]
      rfl⟩
    conv => whnf
    refine br_dec (fun h2 => ?_) (fun h2 => ?_)
    · obtain ⟨p, y, k, e1, e2, rfl, e4, e5⟩ := he.resolve_left (by omega)
      have hi1 : i - 1 < l.length := by omega
      rw [List.getElem?_eq_getElem hi1] at e2
      injection e2 with e2
      conv => whnf
      refine .mk g hg (by omega) (by omega) ?_
      conv => whnf
      refine .hp _ (by rw [Int.toNat_natCast]; exact at_ h' i hi' hq.le) ?_
      conv => whnf
      refine .ok (by omega) (by omega) ?_
      rw [show (i : Int) - 1 = ((i - 1 : Nat) : Int) by omega]
      conv => whnf
      refine .mk g hg (by omega) (by omega) ?_
      conv => whnf
      refine .hp _ (by rw [Int.toNat_natCast]; exact at_ h' (i - 1) hi1 hq.le) ?_
      conv => whnf
      refine br_dec (fun h3 => ?_) (fun h3 => ?_)
      · have hpm : m - 1 = p.length := by rw [hm]; simp
        have hm1 : 1 ≤ m := by rw [hm]; simp
        have htab := hq.tab
        obtain ⟨gg, cs, cs', q1, q2, q3, q4⟩ := hq.row.write (off := (m - 1) * 2 + 1) (by omega) (iv ((k + 1 + 1 : Nat) : Int))
        subst q1
        conv => whnf
        refine .ok (by omega) (by omega) ?_
        rw [show (m : Int) - 1 = ((m - 1 : Nat) : Int) by omega]
        conv => whnf
        refine .mk ⟨gg, 0, none⟩ rfl (by omega) (by omega) ?_
        conv => whnf
        refine .hp (iv ((k + 1 : Nat) : Int)) (by
          rw [Int.toNat_natCast, hpm]
          exact htab.row rfl (i := p.length) (by rw [List.map_append, List.getElem?_append_right (by simp)]; simp; rfl) 1 _ rfl) ?_
        conv => whnf
        refine .ok (by omega) (by omega) ?_
        conv => whnf
        refine .mk ⟨gg, 0, none⟩ rfl (by omega) (by omega) ?_
        conv => whnf
        refine .hp gg ((m - 1) * 2 + 1) 68 cs cs' (by rw [Int.toNat_natCast, add_lit, add_lit, Nat.zero_add]) q2 q3 ?_
        conv => whnf
        refine .ok (by omega) (by omega) ?_
        conv => whnf
        refine .done ⟨(i + 1, some ⟨gg, 0, none⟩, m, c, p ++ [(y, k + 1 + 1)]), rfl, rfl, ⟨by omega, by rw [hm]; simp, ?_, .inr ⟨p, y, k + 1, by omega, ?_, rfl, by omega, ?_⟩⟩, by show n - (i + 1) < n - i; omega⟩
        · rw [hpm, rc_last] at q4
          exact hq.put rfl (by rw [rcells_app]; exact q4)
        · rw [show i + 1 - 1 = i by omega, List.getElem?_eq_getElem hi', ← e2]
          exact congrArg some h3
        · rw [e5, drop_at hi', h3, e2, List.replicate_succ' (n := k + 1), List.append_assoc]
          rfl
      · have hf := fresh.2 p y k e1 (by rw [List.getElem?_eq_getElem hi1, e2]) rfl e4 e5 (fun e => h3 (by rw [e2, e]))
        conv => whnf
        refine .mk g hg (by omega) (by omega) ?_
        conv => whnf
        refine .hp _ (by rw [Int.toNat_natCast]; exact at_ h' i hi' hq.le) ?_
        conv => whnf
        refine .abs 68 2 E m c _ hq.row (.done (.old 1 _ (rcell (l[i], 1)) rfl rfl (by intro u hu; simp only [rcell, List.mem_cons, List.not_mem_nil, or_false] at hu; rcases hu with rfl | rfl <;> rfl) (by simp [maxLen]; omega) (by omega) fun E2 c2 hE2 => ?_))
        conv => whnf
        refine .ok (by omega) (by omega) ?_
        conv => whnf
        refine .pub 1 68 2 E2 (m + 1) c2 _ rfl fun h4 l4 hro hfr => .done ⟨(i + 1, E2, m + 1, c2, (p ++ [(y, k + 1)]) ++ [(l[i], 0 + 1)]), rfl, rfl, ⟨by omega, by simp [hm], ?_, .inr ⟨p ++ [(y, k + 1)], l[i], 0, by omega, by rw [show i + 1 - 1 = i by omega, List.getElem?_eq_getElem hi'], rfl, by omega, hf⟩⟩, by show n - (i + 1) < n - i; omega⟩
        rw [rcells_app (p ++ [(y, k + 1)])]
        exact hq.step (Hp.le_refl _) l4 hro hfr
    · obtain ⟨rfl, rfl⟩ := he.resolve_right (fun ⟨_, _, _, h3, _⟩ => by omega)
      conv => whnf
      refine .mk g hg (by omega) (by omega) ?_
      conv => whnf
      refine .hp _ (by rw [Int.toNat_natCast]; exact at_ h' 0 hi' hq.le) ?_
      conv => whnf
      refine .abs 68 2 E m c _ hq.row (.done (.old 1 _ (rcell (l[0], 1)) rfl rfl (by intro u hu; simp only [rcell, List.mem_cons, List.not_mem_nil, or_false] at hu; rcases hu with rfl | rfl <;> rfl) (by simp [maxLen]; omega) (by omega) fun E2 c2 hE2 => ?_))
      conv => whnf
      refine .ok (by omega) (by omega) ?_
      conv => whnf
      refine .pub 1 68 2 E2 (m + 1) c2 _ rfl fun h4 l4 hro hfr => .done ⟨(0 + 1, E2, m + 1, c2, [] ++ [(l[0], 0 + 1)]), rfl, rfl, ⟨by omega, by simp [hm], ?_, .inr ⟨[], l[0], 0, by omega, by rw [show 0 + 1 - 1 = 0 by omega, List.getElem?_eq_getElem hi'], rfl, by omega, ?_⟩⟩, by show n - (0 + 1) < n - 0; omega⟩
      · rw [rcells_app]
        exact hq.step (Hp.le_refl _) l4 hro hfr
      · rw [List.nil_append, show List.replicate (0 + 1) l[0] ++ l.drop (0 + 1) = l from (drop_at hi').symm]
  · obtain rfl : i = n := by omega
    have hqr : q = runsR l := by
      rcases he with ⟨rfl, rfl⟩ | ⟨p, y, k, h1, h2, rfl, h4, h5⟩
      · rw [List.eq_nil_of_length_eq_zero hl]; rfl
      · rw [h5, List.drop_of_length_le (by omega), runsR_rep y [] (by simp)]; rfl
    rw [hqr] at hq hm
    conv => whnf
    exact .done ⟨E, m, c, rfl, hm, hq⟩
end Go.Sx
namespace Go.Sx
open Go.Proofs
set_option maxRecDepth 100000
abbrev Rz := Int × Int
def zcell (r : Rz) : List Value := [iv r.1, iv r.2]
def zr (r : Rn) : Rz := (r.1, (r.2 : Int))
theorem rc_zr (l : List Rn) : (l.map zr).map zcell = l.map rcell := by
  rw [List.map_map]; exact List.map_congr_left fun _ _ => rfl
theorem zc_wid (l : List Rz) : ∀ r ∈ l.map zcell, r.length = 2 := by
  intro r hr
  obtain ⟨a, _, rfl⟩ := List.mem_map.1 hr
  rfl
/-- what is wrong with runs -/
def badR : List Rz → Int
  | [] => 0
  | (x, t) :: r => if x < 0 ∨ 32 ≤ x then 100 else if t < 1 then 160 else badR r
def totR : List Rz → Nat
  | [] => 0
  | (_, t) :: r => t.toNat + totR r
def flR : List Rz → List Int
  | [] => []
  | (x, t) :: r => rep t.toNat [x] ++ flR r
def flatE (l : List Rz) : Int := if badR l ≠ 0 then badR l else if 2048 < totR l then 5 else 0
def outR (l : List Rz) : List Int := if flatE l = 0 then flR l else []
theorem flR_len : ∀ l : List Rz, (flR l).length = totR l
  | [] => rfl
  | (x, t) :: r => by simp [flR, totR, rep_len, flR_len r]
theorem bad_pos : ∀ {l : List Rz}, badR l = 0 → ∀ r ∈ l, 1 ≤ r.2
  | [], _, _, h => by cases h
  | (x, t) :: l, hb, r, hr => by
    simp only [badR] at hb
    split at hb
    · cases hb
    · split at hb
      · cases hb
      · rcases List.mem_cons.1 hr with rfl | hr
        · show 1 ≤ t; omega
        · exact bad_pos hb r hr
theorem flatE_ok {l : List Rz} (h : flatE l = 0) : badR l = 0 ∧ totR l ≤ 2048 := by
  unfold flatE at h
  split at h
  · rename_i h1; exact absurd h h1
  · rename_i h1
    split at h
    · cases h
    · exact ⟨Decidable.of_not_not h1, by omega⟩
theorem imin (a b : Nat) : min (a : Int) (b : Int) = ((min a b : Nat) : Int) := by omega
theorem bad_in {l : List Rz} (hb : badR l = 0) {i : Nat} (hi : i < l.length) : 1 ≤ l[i].2 := bad_pos hb _ (List.getElem_mem hi)
end Go.Sx
namespace Go.Sx
open Go.Proofs
set_option maxRecDepth 100000
theorem Row.none {h h' : Hp} (x : h.le h') : Row h h' none 0 0 [] := ⟨x, ⟨rfl, .inl ⟨rfl, rfl, rfl⟩⟩, fun _ e => by cases e⟩
end Go.Sx
