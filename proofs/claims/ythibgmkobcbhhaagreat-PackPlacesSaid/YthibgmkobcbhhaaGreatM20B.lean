/- Layer 19: the stable sort as the plan's order needs it: some order of the arcs. Conditions: none. -/
import Derived.Test.YthibgmkobcbhhaaGreatM19S
import Derived.Test.YthibgmkobcbhhaaGreatM19J
import Derived.Test.YthibgmkobcbhhaaGreatM19K
namespace Go.Sx
open Go.Proofs Go.Sort
set_option maxRecDepth 100000
theorem Tab.putNe {h : Hp} {size n : Nat} {A : Option Addr} {rows : List (List Value)} (t : Tab h size A n rows) {b : Nat} {o : Obj} (hne : ∀ g, A = some g → 0 < n → g.block ≠ b) : Tab (h.put b o) size A n rows := by
  refine ⟨t.len, t.wid, t.ad, fun g hg i r hr j v hv => ?_⟩
  have h0 : 0 < n := by
    have := (List.getElem?_eq_some_iff.1 hr).1
    have := t.len
    omega
  have hb := hne g hg h0
  have := t.cell g hg i r hr j v hv
  have hadd : (g.add (i * size + j)).block = g.block := by unfold Addr.add; split <;> rfl
  unfold Hp.cell? at this ⊢
  rw [Hp.put_ne _ _ (by rw [hadd]; exact hb)]
  exact this
theorem stab_all (m : Nat) (hm : m ≤ 1000000) (pk : List Int) : StabOk m pk fun _ => True := by
  intro h q X F kk c d f A cap hr hdis
  obtain ⟨hxs, h2⟩ := hr
  rcases h2 with ⟨rfl, rfl, rfl⟩ | ⟨b, cur, rfl, hb, hn, hc, hsz, htk⟩
  · refine (stable36 f (by decide) none 0 0 [] (Tab.nil _ _ _) (by decide) (fun _ hx => by cases hx) (fun i hi => absurd hi (Nat.not_lt_zero _))).mono ?_
    rintro v h' ⟨rfl, rfl⟩
    exact ⟨rfl, [], .refl _, trivial, ⟨rfl, .inl ⟨rfl, rfl, rfl⟩⟩, fun _ _ => rfl⟩
  · have hq : q ≠ b := fun e => by
      have := f.cell
      rw [e, hb] at this
      injection this with this
      injection this with _ this _
      cases this
    have hcur : cur = (((List.range m).map fun z : Nat => iv (z : Int)) ++ cur.toList.drop (m * 1)).toArray := by
      rw [← htk, List.take_append_drop]
    have hcl : cur.size = cap := by omega
    have htl : (cur.toList.drop (m * 1)).length = cap - m := by simp; omega
    generalize cur.toList.drop (m * 1) = tl at hcur htl
    have he : h = hS h b tl (List.range m) := by
      funext j
      unfold hS
      by_cases hj : j = b
      · rw [hj, Hp.put_same, hb, hcur]
      · rw [Hp.put_ne _ _ hj]
    have hF : ∀ ys, Facts (hS h b tl ys) q X F kk c m d pk := fun ys =>
      ⟨by unfold hS; rw [Hp.put_ne _ _ hq]; exact f.cell, f.tab.putNe fun g hg h0 e => hdis _ g rfl hg h0 e.symm⟩
    have := stb36 (cap := cap) (m := m) hm hF (List.range m) List.length_range (fun x hx => List.mem_range.1 hx)
    rw [← he] at this
    refine this.mono ?_
    rintro v h' ⟨rfl, os, hp, rfl⟩
    have hol : os.length = m := by rw [hp.length_eq, List.length_range]
    refine ⟨rfl, os, hp, trivial, ⟨by simp [hol], .inr ⟨b, _, rfl, hS_at _ _ _ _, hn, hc, by simp [hol, htl]; omega, ?_⟩⟩, fun j hj => ?_⟩
    · simp [hol]
    · exact Hp.put_ne _ _ (hj _ rfl)
end Go.Sx
namespace Go.Sx
open Go.Proofs Go.Sort
set_option maxRecDepth 100000
/-- the greater peak first; of two that are the same the lesser number -/
def TB (pk : List Int) (x y : Nat) : Prop := pk.getD y 0 < pk.getD x 0 ∨ (pk.getD x 0 = pk.getD y 0 ∧ x < y)
theorem TB.tr {pk : List Int} {x y z : Nat} : TB pk x y → TB pk y z → TB pk x z := by unfold TB; omega
theorem TB.irr {pk : List Int} {x : Nat} : ¬ TB pk x x := by unfold TB; omega
theorem cmp_neg {x y : Int} : cmpI x y < 0 ↔ x < y := by
  unfold cmpI
  split
  · simp [*]
  · split <;> simp <;> omega
abbrev Up (pk : List Int) (l : List Nat) : Prop := l.Pairwise (TB pk)
abbrev LtL (A B : List Nat) : Prop := ∀ a ∈ A, ∀ b ∈ B, a < b
structure Mrg (pk : List Int) (A B M : List Nat) : Prop where
  perm : M.Perm (A ++ B)
  up : Up pk M
theorem up_app {pk : List Int} {A B : List Nat} : Up pk (A ++ B) ↔ Up pk A ∧ Up pk B ∧ ∀ a ∈ A, ∀ b ∈ B, TB pk a b := List.pairwise_append
/-- of the last and the first -/
theorem up_join {pk : List Int} {A B : List Nat} (hA : Up pk A) (hB : Up pk B) (h : ∀ (ha : A ≠ []) (hb : B ≠ []), TB pk (A.getLast ha) (B.head hb)) : ∀ a ∈ A, ∀ b ∈ B, TB pk a b := by
  intro a ha b hb
  have nA : A ≠ [] := List.ne_nil_of_mem ha
  have nB : B ≠ [] := List.ne_nil_of_mem hb
  have h1 := h nA nB
  have l : a = A.getLast nA ∨ TB pk a (A.getLast nA) := by
    have e := List.dropLast_concat_getLast nA
    rw [← e, up_app] at hA
    rw [← e, List.mem_append, List.mem_singleton] at ha
    rcases ha with ha | ha
    · exact .inr (hA.2.2 a ha _ (List.mem_singleton.2 rfl))
    · exact .inl ha
  have r : b = B.head nB ∨ TB pk (B.head nB) b := by
    have e := List.cons_head_tail nB
    rw [← e, List.mem_cons] at hb
    rw [← e] at hB
    rcases hb with hb | hb
    · exact .inl hb
    · exact .inr ((List.pairwise_cons.1 hB).1 b hb)
  rcases l with rfl | l <;> rcases r with rfl | r
  · exact h1
  · exact h1.tr r
  · exact l.tr h1
  · exact (l.tr h1).tr r
theorem swp_two (X Y Z : List Nat) (a b i j : Nat) (hi : i = X.length) (hj : j = X.length + 1 + Y.length) (l : List Nat) (hl : l = X ++ a :: (Y ++ b :: Z)) : (l.set i b).set j a = X ++ b :: (Y ++ a :: Z) := by
  subst hi; subst hj; subst hl
  rw [List.set_append_right _ _ (Nat.le_refl _), Nat.sub_self, List.set_cons_zero, List.set_append_right _ _ (by omega), show X.length + 1 + Y.length - X.length = Y.length + 1 by omega, List.set_cons_succ, List.set_append_right _ _ (Nat.le_refl _), Nat.sub_self, List.set_cons_zero]
theorem get_fst (X : List Nat) (a : Nat) (Z : List Nat) {l : List Nat} (hl : l = X ++ a :: Z) {i : Nat} (hi : i = X.length) (h : i < l.length) : l[i] = a := by
  subst hi; subst hl
  rw [List.getElem_append_right (Nat.le_refl _)]
  simp
theorem get_mid {P A S : List Nat} {l : List Nat} (hl : l = P ++ (A ++ S)) {i t : Nat} (hi : i = P.length + t) (ht : t < A.length) (h : i < l.length) : l[i] = A[t] := by
  subst hi; subst hl
  rw [List.getElem_append_right (by omega), List.getElem_append_left (by omega)]
  congr 1
  omega
/-- one number among those of the right that are greater -/
theorem mrg_left {pk : List Int} {a : Nat} {B : List Nat} {n : Nat} (_hn : n ≤ B.length) (hB : Up pk B) (hl : LtL [a] B) (h1 : ∀ t (h : t < B.length), t < n → pk.getD a 0 < pk.getD B[t] 0) (h2 : ∀ t (h : t < B.length), n ≤ t → pk.getD B[t] 0 ≤ pk.getD a 0) : Mrg pk [a] B (B.take n ++ a :: B.drop n) := by
  constructor
  · have : (B.take n ++ a :: B.drop n).Perm (a :: (B.take n ++ B.drop n)) := List.perm_middle
    rw [List.take_append_drop] at this
    exact this
  · have hB' := hB
    rw [← List.take_append_drop n B, up_app] at hB'
    obtain ⟨b1, b2, b3⟩ := hB'
    rw [up_app]
    refine (fun (h : _ ∧ (_ ∧ _) ∧ _) => ⟨h.1, List.pairwise_cons.2 h.2.1, h.2.2⟩) ?_
    have q1 : ∀ b ∈ B.take n, TB pk b a := fun b hb => by
      obtain ⟨t, ht, rfl⟩ := List.getElem_of_mem hb
      rw [List.length_take] at ht
      rw [List.getElem_take]
      exact .inl (h1 t (by omega) (by omega))
    have q2 : ∀ b ∈ B.drop n, TB pk a b := fun b hb => by
      have hm := hl a (List.mem_singleton.2 rfl) b (List.mem_of_mem_drop hb)
      obtain ⟨t, ht, rfl⟩ := List.getElem_of_mem hb
      rw [List.length_drop] at ht
      rw [List.getElem_drop] at hm ⊢
      have := h2 (n + t) (by omega) (by omega)
      rcases Int.lt_or_eq_of_le this with q | q
      · exact .inl q
      · exact .inr ⟨q.symm, hm⟩
    refine ⟨b1, ⟨q2, b2⟩, fun x hx y hy => ?_⟩
    rcases List.mem_cons.1 hy with rfl | hy
    · exact q1 x hx
    · exact b3 x hx y hy
/-- one number among those of the left that are less -/
theorem mrg_right {pk : List Int} {b : Nat} {A : List Nat} {n : Nat} (_hn : n ≤ A.length) (hA : Up pk A) (hl : LtL A [b]) (h1 : ∀ t (h : t < A.length), t < n → pk.getD b 0 ≤ pk.getD A[t] 0) (h2 : ∀ t (h : t < A.length), n ≤ t → pk.getD A[t] 0 < pk.getD b 0) : Mrg pk A [b] (A.take n ++ b :: A.drop n) := by
  constructor
  · have : (A.take n ++ b :: A.drop n).Perm (b :: (A.take n ++ A.drop n)) := List.perm_middle
    rw [List.take_append_drop] at this
    exact this.trans (List.perm_append_comm (l₁ := [b]))
  · have hA' := hA
    rw [← List.take_append_drop n A, up_app] at hA'
    obtain ⟨b1, b2, b3⟩ := hA'
    rw [up_app]
    refine (fun (h : _ ∧ (_ ∧ _) ∧ _) => ⟨h.1, List.pairwise_cons.2 h.2.1, h.2.2⟩) ?_
    have q1 : ∀ x ∈ A.take n, TB pk x b := fun x hx => by
      have hm := hl x (List.mem_of_mem_take hx) b (List.mem_singleton.2 rfl)
      obtain ⟨t, ht, rfl⟩ := List.getElem_of_mem hx
      rw [List.length_take] at ht
      rw [List.getElem_take] at hm ⊢
      rcases Int.lt_or_eq_of_le (h1 t (by omega) (by omega)) with q | q
      · exact .inl q
      · exact .inr ⟨q.symm, hm⟩
    have q2 : ∀ x ∈ A.drop n, TB pk b x := fun x hx => by
      obtain ⟨t, ht, rfl⟩ := List.getElem_of_mem hx
      rw [List.length_drop] at ht
      rw [List.getElem_drop]
      exact .inl (h2 (n + t) (by omega) (by omega))
    refine ⟨b1, ⟨q2, b2⟩, fun x hx y hy => ?_⟩
    rcases List.mem_cons.1 hy with rfl | hy
    · exact q1 x hx
    · exact b3 x hx y hy
/-- two merges of halves -/
theorem mrg_both {pk : List Int} {A1 A2 B1 B2 M1 M2 : List Nat} (hA : Up pk (A1 ++ A2)) (hB : Up pk (B1 ++ B2)) (m1 : Mrg pk A1 B1 M1) (m2 : Mrg pk A2 B2 M2) (h1 : ∀ a ∈ A1, ∀ b ∈ B2, TB pk a b) (h2 : ∀ b ∈ B1, ∀ a ∈ A2, TB pk b a) : Mrg pk (A1 ++ A2) (B1 ++ B2) (M1 ++ M2) := by
  constructor
  · refine (m1.perm.append m2.perm).trans ?_
    rw [List.append_assoc, List.append_assoc]
    refine List.Perm.append_left A1 ?_
    rw [← List.append_assoc, ← List.append_assoc]
    exact List.Perm.append_right B2 List.perm_append_comm
  · rw [up_app]
    refine ⟨m1.up, m2.up, fun x hx y hy => ?_⟩
    rw [up_app] at hA hB
    rcases List.mem_append.1 (m1.perm.mem_iff.1 hx) with hx | hx <;> rcases List.mem_append.1 (m2.perm.mem_iff.1 hy) with hy | hy
    · exact hA.2.2 x hx y hy
    · exact h1 x hx y hy
    · exact h2 x hx y hy
    · exact hB.2.2 x hx y hy
theorem mrg_nil_left {pk : List Int} {B : List Nat} (h : Up pk B) : Mrg pk [] B B := ⟨.refl _, h⟩
theorem mrg_nil_right {pk : List Int} {A : List Nat} (h : Up pk A) : Mrg pk A [] A := ⟨by rw [List.append_nil], h⟩
end Go.Sx
namespace Go.Sx
open Go.Proofs Go.Sort
set_option maxRecDepth 100000
theorem swap104x {h0 : Hp} {b : Nat} {tl : List Value} {q m cap : Nat} (hm : m ≤ 1000000) (P A M B S : List Nat) (n : Nat) (hA : A.length = n) (hB : B.length = n) (hos : (P ++ (A ++ (M ++ (B ++ S)))).length = m) (xi yi ni : Int) (hxi : xi = (P.length : Nat)) (hyi : yi = ((P.length + n + M.length : Nat) : Int)) (hni : ni = (n : Nat)) :
    Fn Tryz.prog 100 #[.slice (some ⟨b, 0, none⟩) m cap, iv xi, iv yi, iv ni, fnP q] (hS h0 b tl (P ++ (A ++ (M ++ (B ++ S))))) fun v h' => v = .tuple #[] ∧ h' = hS h0 b tl (P ++ (B ++ (M ++ (A ++ S)))) := by
  subst hxi; subst hyi; subst hni
  obtain ⟨x, hx⟩ : ∃ x, x = P.length := ⟨_, rfl⟩
  obtain ⟨y, hy⟩ : ∃ y, y = P.length + n + M.length := ⟨_, rfl⟩
  simp only [List.length_append] at hos
  rw [← hy, ← hx]
  refine Fn.intro (args := [.slice (some ⟨b, 0, none⟩) m cap, iv x, iv y, iv n, fnP q]) mix14 Tryz.func100 rfl (by decide) Tryz.ntmps100 rfl (low100 rfl) rfl ?_
  conv => whnf
  refine .mk (Nat × List Nat) [0, 1, 2, 3, 10] (fun (i, _) => [.v (.slice (some ⟨b, 0, none⟩) m cap), .v (iv x), .v (iv y), .v (iv n), .v (iv i)]) (fun _ => []) (fun (i, ys) h' => i ≤ n ∧ ys = (P ++ B.take i) ++ (A.drop i ++ (M ++ (A.take i ++ (B.drop i ++ S)))) ∧ h' = hS h0 b tl ys) (fun (i, _) => n - i) (0, _) (fun (_, _) => rfl) ⟨Nat.zero_le _, by simp, rfl⟩ rfl rfl ?_
  rintro ⟨i, ys⟩ e h' ⟨hi, hp, rfl⟩
  have hyl : ys.length = m := by rw [hp]; simp [List.length_take, List.length_drop]; omega
  conv => whnf
  refine br_dec (fun u => ?_) (fun u => ?_)
  · have hi' : i < n := by omega
    have hiA : i < A.length := by omega
    have hiB : i < B.length := by omega
    have dA : A.drop i = A[i] :: A.drop (i + 1) := List.drop_eq_getElem_cons (by omega)
    have dB : B.drop i = B[i] :: B.drop (i + 1) := List.drop_eq_getElem_cons (by omega)
    have tA : A.take (i + 1) = A.take i ++ [A[i]] := by rw [List.take_add_one, List.getElem?_eq_getElem (by omega)]; rfl
    have tB : B.take (i + 1) = B.take i ++ [B[i]] := by rw [List.take_add_one, List.getElem?_eq_getElem (by omega)]; rfl
    have hp2 : ys = (P ++ B.take i) ++ A[i] :: ((A.drop (i + 1) ++ (M ++ A.take i)) ++ B[i] :: (B.drop (i + 1) ++ S)) := by
      rw [hp, dA, dB]; simp only [List.append_assoc, List.cons_append]
    have hl1 : (P ++ B.take i).length = x + i := by simp [List.length_take]; omega
    have hl2 : (A.drop (i + 1) ++ (M ++ A.take i)).length + 1 + (x + i) = y + i := by simp [List.length_take, List.length_drop]; omega
    have sw := swp_two _ _ _ A[i] B[i] (x + i) (y + i) (by rw [hl1]) (by omega) ys hp2
    have g1 : ys[x + i]'(by omega) = A[i] := get_fst _ _ _ hp2 (by rw [hl1]) _
    have g2 : ys[y + i]'(by omega) = B[i] := get_fst ((P ++ B.take i) ++ A[i] :: (A.drop (i + 1) ++ (M ++ A.take i))) _ (B.drop (i + 1) ++ S) (by rw [hp2]; simp [List.append_assoc]) (by
      rw [List.length_append, List.length_cons, hl1]; omega) _
    conv => whnf
    refine .ok (by omega) (by omega) ?_
    conv => whnf
    refine .ok (by omega) (by omega) ?_
    conv => whnf
    refine .ok (by omega) (by omega) ?_
    conv => whnf
    refine .mk _ rfl (by omega) (by omega) ?_
    conv => whnf
    refine .hp _ (ldS (j := y + i) (by omega) (by omega)) ?_
    conv => whnf
    refine .ok (by omega) (by omega) ?_
    conv => whnf
    refine .mk _ rfl (by omega) (by omega) ?_
    conv => whnf
    refine .hp _ (ldS (j := x + i) (by omega) (by omega)) ?_
    conv => whnf
    refine .mk _ rfl (by omega) (by omega) ?_
    conv => whnf
    refine stS (j := x + i) (v := ys[y + i]) (by omega) (by omega) ?_
    conv => whnf
    refine .mk _ rfl (by omega) (by omega) ?_
    conv => whnf
    refine stS (j := y + i) (v := ys[x + i]) (by omega) (by simp; omega) ?_
    rw [g1, g2, sw]
    conv => whnf
    refine .ok (by omega) (by omega) ?_
    conv => whnf
    refine ⟨(i + 1, _), rfl, rfl, ⟨hi', ?_, rfl⟩, by show n - (i + 1) < n - i; omega⟩
    rw [tA, tB]
    simp only [List.append_assoc, List.cons_append, List.nil_append]
  · have : i = n := by omega
    subst this
    conv => whnf
    refine .done ⟨rfl, ?_⟩
    rw [hp, List.drop_of_length_le (by omega), List.drop_of_length_le (by omega), List.take_of_length_le (by omega), List.take_of_length_le (by omega)]
    simp [List.append_assoc]
theorem rot97x {h0 : Hp} {b : Nat} {tl : List Value} {q m cap : Nat} (hm : m ≤ 1000000) (P A B S : List Nat) (hA : A ≠ []) (hB : B ≠ []) (hos : (P ++ (A ++ (B ++ S))).length = m) (x y n : Int) (hx : x = (P.length : Nat)) (hy : y = x + (A.length : Nat)) (hn : n = y + (B.length : Nat)) :
    Fn Tryz.prog 77 #[.slice (some ⟨b, 0, none⟩) m cap, iv x, iv y, iv n, fnP q] (hS h0 b tl (P ++ (A ++ (B ++ S)))) fun v h' => v = .tuple #[] ∧ h' = hS h0 b tl (P ++ (B ++ (A ++ S))) := by
  have hA0 : 0 < A.length := List.length_pos_iff.2 hA
  have hB0 : 0 < B.length := List.length_pos_iff.2 hB
  have hos' := hos
  simp only [List.length_append] at hos'
  refine Fn.intro (args := [.slice (some ⟨b, 0, none⟩) m cap, iv x, iv y, iv n, fnP q]) mix14 Tryz.func77 rfl (by decide) Tryz.ntmps77 rfl (low77 rfl) rfl ?_
  conv => whnf
  refine .ok (by omega) (by omega) ?_
  conv => whnf
  refine .ok (by omega) (by omega) ?_
  conv => whnf
  refine .mk (Int × Int × List Nat) [0, 2, 4, 10, 11] (fun (i, j, _) => [.v (.slice (some ⟨b, 0, none⟩) m cap), .v (iv y), .v (fnP q), .v (iv i), .v (iv j)]) (fun _ => [])
    (fun (i, j, ys) h' => (∃ P1 A1 B1 S1 : List Nat, ys = P1 ++ (A1 ++ (B1 ++ S1)) ∧ P ++ (B ++ (A ++ S)) = P1 ++ (B1 ++ (A1 ++ S1)) ∧ i = (A1.length : Nat) ∧ j = (B1.length : Nat) ∧ 0 < A1.length ∧ 0 < B1.length ∧ y = ((P1.length + A1.length : Nat) : Int) ∧ ys.length = m) ∧ h' = hS h0 b tl ys) (fun (i, j, _) => (i + j).toNat) (y - x, n - y, _) (fun (_, _, _) => rfl) ⟨⟨P, A, B, S, rfl, rfl, by omega, by omega, hA0, hB0, by omega, hos⟩, rfl⟩ rfl rfl ?_
  rintro ⟨i, j, ys⟩ e h' ⟨⟨P1, A1, B1, S1, hys, hfin, hi, hj, ha, hb, hyy, hyl⟩, rfl⟩
  have hyl' := hyl
  rw [hys] at hyl'
  simp only [List.length_append] at hyl'
  conv => whnf
  refine br_dec (fun u => ?_) (fun u => ?_)
  · conv => whnf
    refine br_dec (fun u2 => ?_) (fun u2 => ?_)
    · conv => whnf
      refine .ok (by omega) (by omega) ?_
      have e1 : ys = P1 ++ (A1.take B1.length ++ (A1.drop B1.length ++ (B1 ++ S1))) := by rw [hys, ← List.append_assoc (A1.take _), List.take_append_drop]
      rw [e1] at hyl ⊢
      conv => whnf
      refine .done (.mk _ (swap104x hm P1 (A1.take B1.length) (A1.drop B1.length) B1 S1 B1.length (by rw [List.length_take]; omega) rfl hyl (y - i) y j (by omega) (by rw [List.length_drop]; omega) (by omega)) ?_)
      rintro _ _ ⟨rfl, rfl⟩
      conv => whnf
      refine .ok (by omega) (by omega) ?_
      conv => whnf
      refine ⟨(i - j, j, _), rfl, rfl, ⟨⟨P1 ++ B1, A1.drop B1.length, A1.take B1.length, S1, ?_, ?_, ?_, ?_, ?_, ?_, ?_, ?_⟩, rfl⟩, by show (i - j + j).toNat < (i + j).toNat; omega⟩
      · simp [List.append_assoc]
      · rw [hfin, ← List.append_assoc (A1.take _) (A1.drop _), List.take_append_drop]; simp [List.append_assoc]
      · rw [List.length_drop]; omega
      · rw [List.length_take]; omega
      · rw [List.length_drop]; omega
      · rw [List.length_take]; omega
      · rw [List.length_append, List.length_drop]; omega
      · simp only [List.length_append, List.length_take, List.length_drop] at hyl ⊢; omega
    · conv => whnf
      refine .ok (by omega) (by omega) ?_
      conv => whnf
      refine .ok (by omega) (by omega) ?_
      conv => whnf
      refine .ok (by omega) (by omega) ?_
      have e1 : ys = P1 ++ (A1 ++ (B1.take (B1.length - A1.length) ++ (B1.drop (B1.length - A1.length) ++ S1))) := by rw [hys, ← List.append_assoc (B1.take _), List.take_append_drop]
      rw [e1] at hyl ⊢
      conv => whnf
      refine .done (.mk _ (swap104x hm P1 A1 (B1.take (B1.length - A1.length)) (B1.drop (B1.length - A1.length)) S1 A1.length rfl (by rw [List.length_drop]; omega) hyl (y - i) (y + j - i) i (by omega) (by rw [List.length_take]; omega) (by omega)) ?_)
      rintro _ _ ⟨rfl, rfl⟩
      conv => whnf
      refine .ok (by omega) (by omega) ?_
      conv => whnf
      refine ⟨(i, j - i, _), rfl, rfl, ⟨⟨P1, B1.drop (B1.length - A1.length), B1.take (B1.length - A1.length), A1 ++ S1, rfl, ?_, ?_, ?_, ?_, ?_, ?_, ?_⟩, rfl⟩, by show (i + (j - i)).toNat < (i + j).toNat; omega⟩
      · rw [hfin, ← List.append_assoc (B1.take _) (B1.drop _), List.take_append_drop]
      · rw [List.length_drop]; omega
      · rw [List.length_take]; omega
      · rw [List.length_drop]; omega
      · rw [List.length_take]; omega
      · rw [List.length_drop]; omega
      · simp only [List.length_append, List.length_take, List.length_drop] at hyl ⊢; omega
  · conv => whnf
    refine .ok (by omega) (by omega) ?_
    have e1 : ys = P1 ++ (A1 ++ ([] ++ (B1 ++ S1))) := by rw [hys]; rfl
    rw [e1] at hyl ⊢
    conv => whnf
    refine .done (.mk _ (swap104x hm P1 A1 [] B1 S1 A1.length rfl (by omega) hyl (y - i) y i (by omega) (by simp; omega) (by omega)) ?_)
    rintro _ _ ⟨rfl, rfl⟩
    conv => whnf
    refine .done ⟨rfl, ?_⟩
    rw [hfin]; rfl
/-- one place before the other change -/
theorem ins77x {h0 : Hp} {b : Nat} {tl : List Value} {q m cap : Nat} {X F : Option Addr} {k c d : Nat} {pk : List Int} (hm : m ≤ 1000000) (hF : ∀ ys, Facts (hS h0 b tl ys) q X F k c m d pk) (P L S : List Nat) (hos : (P ++ (L ++ S)).length = m) (hx : ∀ x ∈ P ++ (L ++ S), x < m) (hL : L.Pairwise (· < ·)) (x y : Int) (hxi : x = (P.length : Nat)) (hyi : y = x + (L.length : Nat)) :
    Fn Tryz.prog 54 #[.slice (some ⟨b, 0, none⟩) m cap, iv x, iv y, fnP q] (hS h0 b tl (P ++ (L ++ S))) fun v h' => v = .tuple #[] ∧ ∃ M : List Nat, M.Perm L ∧ Up pk M ∧ h' = hS h0 b tl (P ++ (M ++ S)) := by
  have hos' := hos
  simp only [List.length_append] at hos'
  refine Fn.intro (args := [.slice (some ⟨b, 0, none⟩) m cap, iv x, iv y, fnP q]) mix14 Tryz.func54 rfl (by decide) Tryz.ntmps54 rfl (low54 rfl) rfl ?_
  conv => whnf
  refine .ok (by omega) (by omega) ?_
  conv => whnf
  refine .mk (Int × Nat × List Nat) [0, 1, 2, 3, 8] (fun (i, _, _) => [.v (.slice (some ⟨b, 0, none⟩) m cap), .v (iv x), .v (iv y), .v (fnP q), .v (iv i)]) (fun _ => []) (fun (i, n, D) h' => i = x + (n : Nat) ∧ 1 ≤ n ∧ n ≤ L.length + 1 ∧ D.Perm (L.take n) ∧ Up pk D ∧ h' = hS h0 b tl (P ++ (D ++ (L.drop n ++ S)))) (fun (i, _, _) => (y - i).toNat) (x + 1, 1, L.take 1) (fun (_, _, _) => rfl) ⟨rfl, by omega, by omega, .refl _, by cases L with | nil => exact .nil | cons a L => exact List.pairwise_singleton _ _, by rw [← List.append_assoc (L.take 1), List.take_append_drop]⟩ rfl rfl ?_
  rintro ⟨i, n, D⟩ e h' ⟨hi, hn1, hnL, hD, hU, rfl⟩
  conv => whnf
  refine br_dec (fun u => ?_) (fun u => ?_)
  · have hnl : n < L.length := by omega
    have hDl : D.length = n := by rw [hD.length_eq, List.length_take]; omega
    have dL : L.drop n = L[n] :: L.drop (n + 1) := List.drop_eq_getElem_cons hnl
    have tL : L.take (n + 1) = L.take n ++ [L[n]] := by rw [List.take_add_one, List.getElem?_eq_getElem hnl]; rfl
    have hlt : ∀ a ∈ D, a < L[n] := fun a ha => by
      have ha := hD.mem_iff.1 ha
      rw [← List.take_append_drop n L, dL, List.pairwise_append] at hL
      exact hL.2.2 a ha _ (List.mem_cons_self ..)
    have hmem : ∀ z ∈ L, z < m := fun z hz => hx z (List.mem_append_right _ (List.mem_append_left _ hz))
    conv => whnf
    refine .mk (Int × Nat) [0, 1, 2, 3, 8, 9] (fun (j, _) => [.v (.slice (some ⟨b, 0, none⟩) m cap), .v (iv x), .v (iv y), .v (fnP q), .v (iv i), .v (iv j)]) (fun _ => []) (fun (j, t) h' => j = x + (t : Nat) ∧ t ≤ n ∧ (∀ a ∈ D.drop t, TB pk L[n] a) ∧ h' = hS h0 b tl ((P ++ D.take t) ++ L[n] :: (D.drop t ++ (L.drop (n + 1) ++ S)))) (fun (j, _) => (j - x).toNat) (i, n) (fun (_, _) => rfl) ⟨hi, Nat.le_refl _, by rw [List.drop_of_length_le (by omega)]; exact fun _ h => (by cases h), by
      rw [List.take_of_length_le (by omega), List.drop_of_length_le (show D.length ≤ n by omega), dL]; simp only [List.append_assoc, List.nil_append, List.cons_append]⟩ rfl rfl ?_
    rintro ⟨j, t⟩ e2 h2 ⟨hj, htn, htb, rfl⟩
    have hdone : (∀ a ∈ D.take t, TB pk a L[n]) → ∃ M : List Nat, M.Perm (L.take (n + 1)) ∧ Up pk M ∧ (P ++ D.take t) ++ L[n] :: (D.drop t ++ (L.drop (n + 1) ++ S)) = P ++ (M ++ (L.drop (n + 1) ++ S)) := fun h => by
      refine ⟨D.take t ++ L[n] :: D.drop t, ?_, ?_, by simp [List.append_assoc]⟩
      · rw [tL]
        refine List.perm_middle.trans ?_
        rw [List.take_append_drop]
        exact (List.Perm.cons _ hD).trans (List.perm_append_comm (l₁ := [L[n]]))
      · have hU' := hU
        rw [← List.take_append_drop t D, up_app] at hU'
        rw [up_app]
        refine ⟨hU'.1, List.pairwise_cons.2 ⟨htb, hU'.2.1⟩, fun a ha c hc => ?_⟩
        rcases List.mem_cons.1 hc with rfl | hc
        · exact h a ha
        · exact hU'.2.2 a ha c hc
    conv => whnf
    refine br_dec (fun w => ?_) (fun w => ?_)
    · obtain ⟨s, rfl⟩ : ∃ s, t = s + 1 := ⟨t - 1, by omega⟩
      obtain ⟨jn, rfl⟩ := Int.eq_ofNat_of_zero_le (show 0 ≤ j by omega)
      have hsD : s < D.length := by omega
      have tD : D.take (s + 1) = D.take s ++ [D[s]'hsD] := by rw [List.take_add_one, List.getElem?_eq_getElem (by omega)]; rfl
      obtain ⟨zs, hz⟩ : ∃ zs, zs = (P ++ D.take (s + 1)) ++ L[n] :: (D.drop (s + 1) ++ (L.drop (n + 1) ++ S)) := ⟨_, rfl⟩
      rw [← hz]
      have hzl : zs.length = m := by rw [hz]; simp [List.length_take, List.length_drop]; omega
      have hz2 : zs = (P ++ D.take s) ++ D[s]'hsD :: ([] ++ L[n] :: (D.drop (s + 1) ++ (L.drop (n + 1) ++ S))) := by rw [hz, tD]; simp only [List.append_assoc, List.cons_append, List.nil_append]
      have hl1 : (P ++ D.take s).length = jn - 1 := by simp [List.length_take]; omega
      have g1 : zs[jn - 1]'(by omega) = D[s]'hsD := get_fst _ _ _ hz2 (by rw [hl1]) _
      have g2 : zs[jn]'(by omega) = L[n] := get_fst _ _ _ hz (by simp [List.length_take]; omega) _
      have sw := swp_two _ _ _ (D[s]'hsD) L[n] (jn - 1) jn (by rw [hl1]) (by simp only [List.length_nil]; omega) zs hz2
      have sw' : (zs.set jn (D[s]'hsD)).set (jn - 1) L[n] = (P ++ D.take s) ++ L[n] :: ([] ++ D[s]'hsD :: (D.drop (s + 1) ++ (L.drop (n + 1) ++ S))) := by
        rw [List.set_comm _ _ (by omega)]; exact sw
      have m1 := hmem _ (List.mem_of_mem_take (hD.mem_iff.1 (List.getElem_mem (show s < D.length by omega))))
      have m2 := hmem _ (List.getElem_mem hnl)
      have dD : D.drop s = D[s]'hsD :: D.drop (s + 1) := List.drop_eq_getElem_cons (by omega)
      have lt := hlt _ (List.getElem_mem (show s < D.length by omega))
      conv => whnf
      refine .mk _ rfl (by omega) (by omega) ?_
      conv => whnf
      refine .hp _ (ldS (j := jn) (by omega) (by omega)) ?_
      conv => whnf
      refine .ok (by omega) (by omega) ?_
      conv => whnf
      refine .mk _ rfl (by omega) (by omega) ?_
      conv => whnf
      refine .hp _ (ldS (j := jn - 1) (by omega) (by omega)) ?_
      rw [g1, g2]
      conv => whnf
      refine .mk _ (place37 (hF zs) hm m2 m1) ?_ ?_
      · rintro _ _ ⟨rfl, rfl⟩; exact Hp.le_refl _
      rintro _ _ ⟨rfl, rfl⟩
      conv => whnf
      refine br_dec (fun w2 => ?_) (fun w2 => ?_)
      · have w2 := cmp_neg.1 w2
        conv => whnf
        refine .ok (by omega) (by omega) ?_
        conv => whnf
        refine .ok (by omega) (by omega) ?_
        conv => whnf
        refine .mk _ rfl (by omega) (by omega) ?_
        conv => whnf
        refine .hp _ (ldS (j := jn - 1) (by omega) (by omega)) ?_
        conv => whnf
        refine .mk _ rfl (by omega) (by omega) ?_
        conv => whnf
        refine .hp _ (ldS (j := jn) (by omega) (by omega)) ?_
        conv => whnf
        refine .mk _ rfl (by omega) (by omega) ?_
        conv => whnf
        refine stS (j := jn) (v := zs[jn - 1]) (by omega) (by omega) ?_
        conv => whnf
        refine .mk _ rfl (by omega) (by omega) ?_
        conv => whnf
        refine stS (j := jn - 1) (v := zs[jn]) (by omega) (by simp; omega) ?_
        rw [g1, g2, sw']
        conv => whnf
        refine .ok (by omega) (by omega) ?_
        conv => whnf
        refine ⟨((jn : Int) - 1, s), rfl, rfl, ⟨by omega, by omega, ?_, ?_⟩, by show ((jn : Int) - 1 - x).toNat < ((jn : Int) - x).toNat; omega⟩
        · intro a ha
          rw [dD] at ha
          rcases List.mem_cons.1 ha with rfl | ha
          · exact .inl w2
          · exact htb a ha
        · rw [dD]; rfl
      · have w2 : ¬ pk.getD (D[s]'hsD) 0 < pk.getD L[n] 0 := fun q => w2 (cmp_neg.2 q)
        obtain ⟨M, hM, hMU, hMe⟩ := hdone (fun a ha => by
          have q : TB pk (D[s]'hsD) L[n] := by unfold TB; omega
          rw [tD] at ha
          rcases List.mem_append.1 ha with ha | ha
          · have hU' := hU
            rw [← List.take_append_drop s D, up_app] at hU'
            exact (hU'.2.2 a ha _ (by rw [dD]; exact List.mem_cons_self ..)).tr q
          · rw [List.mem_singleton.1 ha]; exact q)
        conv => whnf
        refine .ok (by omega) (by omega) ?_
        conv => whnf
        refine ⟨(i + 1, n + 1, M), rfl, rfl, ⟨by omega, by omega, by omega, hM, hMU, by rw [hz, hMe]⟩, by show (y - (i + 1)).toNat < (y - i).toNat; omega⟩
    · have ht0 : t = 0 := by omega
      subst ht0
      obtain ⟨M, hM, hMU, hMe⟩ := hdone (fun a ha => by cases ha)
      conv => whnf
      refine .ok (by omega) (by omega) ?_
      conv => whnf
      refine ⟨(i + 1, n + 1, M), rfl, rfl, ⟨by omega, by omega, by omega, hM, hMU, by rw [hMe]⟩, by show (y - (i + 1)).toNat < (y - i).toNat; omega⟩
  · conv => whnf
    refine .done ⟨rfl, D, ?_, hU, ?_⟩
    · rw [List.take_of_length_le (by omega)] at hD; exact hD
    · rw [List.drop_of_length_le (by omega)]; rfl
end Go.Sx
