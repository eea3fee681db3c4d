/- NestBack: the law's own function answers true. Conditions: none. -/
import Derived.Test.YtnfmbjeicloemaaLQ7
namespace Go.Sx
open Go.Proofs
theorem flR_runs : ∀ l : List Int, flR ((runsR l).map zr) = l
  | [] => rfl
  | x :: l => by
    have ih := flR_runs l
    simp only [runsR]
    split
    · rename_i y k r h
      rw [h] at ih
      simp only [List.map_cons, zr, flR, Int.toNat_natCast] at ih
      split
      · rename_i e
        subst e
        simp only [List.map_cons, zr, flR, Int.toNat_natCast, rep]
        rw [List.append_assoc, ih]
        rfl
      · simp only [List.map_cons, zr, flR, Int.toNat_natCast]
        rw [ih]
        rfl
    · rename_i h
      rw [h] at ih
      simp only [List.map_nil, flR] at ih
      rw [← ih]
      rfl
theorem runs_pos : ∀ l : List Int, ∀ r ∈ runsR l, 1 ≤ r.2
  | [], _, h => by cases h
  | x :: l, r, h => by
    have ih := runs_pos l
    simp only [runsR] at h
    split at h
    · rename_i y k q hq
      rw [hq] at ih
      split at h
      · rcases List.mem_cons.1 h with rfl | h
        · show 1 ≤ k + 1; omega
        · exact ih r (List.mem_cons_of_mem _ h)
      · rcases List.mem_cons.1 h with rfl | h
        · exact Nat.le_refl _
        · exact ih r h
    · rw [List.mem_singleton.1 h]; exact Nat.le_refl _
def Adj : List Rn → Prop
  | a :: b :: r => a.1 ≠ b.1 ∧ Adj (b :: r)
  | _ => True
theorem runs_adj : ∀ l : List Int, Adj (runsR l)
  | [] => trivial
  | x :: l => by
    have ih := runs_adj l
    simp only [runsR]
    split
    · rename_i y k q hq
      rw [hq] at ih
      split
      · rename_i e
        subst e
        cases q with
        | nil => trivial
        | cons b q => exact ⟨ih.1, ih.2⟩
      · rename_i e
        exact ⟨fun h => e h.symm, ih⟩
    · trivial
theorem adj_at : ∀ (l : List Rn), Adj l → ∀ i (hi : i + 1 < l.length), l[i].1 ≠ l[i + 1].1
  | [], _, i, hi => by simp at hi
  | [a], _, i, hi => by simp at hi
  | a :: b :: r, h, 0, _ => h.1
  | a :: b :: r, h, i + 1, hi => adj_at (b :: r) h.2 i (by simpa using hi)
theorem bad_runs : ∀ l : List Rz, (∀ r ∈ l, 1 ≤ r.2) → (badR l = 0 ↔ ∀ r ∈ l, 0 ≤ r.1 ∧ r.1 ≤ 31)
  | [], _ => ⟨fun _ r h => (by cases h), fun _ => rfl⟩
  | (x, t) :: l, hp => by
    have ih := bad_runs l fun r hr => hp r (List.mem_cons_of_mem _ hr)
    have ht : 1 ≤ t := hp (x, t) (List.mem_cons_self ..)
    simp only [badR]
    by_cases hx : x < 0 ∨ 32 ≤ x
    · rw [if_pos hx]
      refine ⟨fun h => (by cases h), fun h => ?_⟩
      have : 0 ≤ x ∧ x ≤ 31 := h (x, t) (List.mem_cons_self ..)
      omega
    · rw [if_neg hx, if_neg (by omega), ih]
      refine ⟨fun h r hr => ?_, fun h r hr => h r (List.mem_cons_of_mem _ hr)⟩
      rcases List.mem_cons.1 hr with rfl | hr
      · show 0 ≤ x ∧ x ≤ 31; omega
      · exact h r hr
theorem rep_mem {α : Type} {x : α} {w : List α} : ∀ {k : Nat}, x ∈ rep k w → x ∈ w
  | 0, h => by cases h
  | k + 1, h => by
    rcases List.mem_append.1 h with h | h
    · exact h
    · exact rep_mem h
theorem rep_in {α : Type} {x : α} {w : List α} {k : Nat} (hk : 1 ≤ k) (h : x ∈ w) : x ∈ rep k w := by
  obtain ⟨j, rfl⟩ : ∃ j, k = j + 1 := ⟨k - 1, by omega⟩
  exact List.mem_append_left _ h
theorem flR_mem : ∀ (l : List Rz), (∀ r ∈ l, 1 ≤ r.2) → ((∀ x ∈ flR l, 0 ≤ x ∧ x ≤ 31) ↔ ∀ r ∈ l, 0 ≤ r.1 ∧ r.1 ≤ 31)
  | [], _ => ⟨fun _ r h => (by cases h), fun _ r h => (by cases h)⟩
  | (x, t) :: l, hp => by
    have ih := flR_mem l fun r hr => hp r (List.mem_cons_of_mem _ hr)
    have ht : 1 ≤ t := hp (x, t) (List.mem_cons_self ..)
    simp only [flR]
    constructor
    · intro h r hr
      rcases List.mem_cons.1 hr with rfl | hr
      · exact h x (List.mem_append_left _ (rep_in (by omega) (List.mem_singleton.2 rfl)))
      · exact ih.1 (fun y hy => h y (List.mem_append_right _ hy)) r hr
    · intro h y hy
      rcases List.mem_append.1 hy with hy | hy
      · rw [List.mem_singleton.1 (rep_mem hy)]
        exact h (x, t) (List.mem_cons_self ..)
      · exact ih.2 (fun r hr => h r (List.mem_cons_of_mem _ hr)) y hy
def inR (z : Int) : Bool := decide (0 ≤ z) && decide (z ≤ 31)
theorem runs_flat (l : List Int) : (flatE ((runsR l).map zr) = 0 ↔ l.length ≤ 2048 ∧ l.all inR = true) ∧ totR ((runsR l).map zr) = l.length := by
  have hp : ∀ r ∈ (runsR l).map zr, 1 ≤ r.2 := fun r hr => by
    obtain ⟨q, hq, rfl⟩ := List.mem_map.1 hr
    have := runs_pos l q hq
    show (1 : Int) ≤ (q.2 : Int); omega
  have ht : totR ((runsR l).map zr) = l.length := by rw [← flR_len, flR_runs]
  have hb : badR ((runsR l).map zr) = 0 ↔ l.all inR = true := by
    rw [bad_runs _ hp, ← flR_mem _ hp, flR_runs, List.all_eq_true]
    simp [inR]
  refine ⟨?_, ht⟩
  unfold flatE
  rw [ht]
  constructor
  · intro h
    split at h
    · rename_i h1; exact absurd h h1
    · rename_i h1
      split at h
      · cases h
      · exact ⟨by omega, hb.1 (Decidable.of_not_not h1)⟩
  · rintro ⟨h1, h2⟩
    rw [if_neg (by rw [hb.2 h2]; decide), if_neg (by omega)]
theorem lawQ9 (D : Option Addr) (n cap : Nat) (l : List Int) (h : Hp) (hz : Tab h 1 D n (l.map fun z => [iv z])) (hn : n ≤ 4398046511103) : Fn Try.prog 9 #[.slice D n cap] h fun v h' => v = .bool true ∧ h.le h' := by
  have hl : l.length = n := by simpa using hz.len
  have hrl := runsR_len l
  obtain ⟨e0, t0⟩ := runs_flat l
  have ffl := flR_runs l
  have hpos := runs_pos l
  have hadj := adj_at _ (runs_adj l)
  refine Fn.intro (args := [.slice D n cap]) mix16 Try.func9 rfl (by decide) Try.ntmps9 rfl (low9 rfl) rfl ?_
  conv => whnf
  refine .done (.mk _ (ints35 D n cap l h hz (by omega)) ?_)
  rintro _ h1 ⟨l1, A1, c1, rfl, r1, f1⟩
  conv => whnf
  refine .done (.mk _ (runs29 A1 n c1 l h1 r1.nums (by omega)) ?_)
  rintro _ h2 ⟨E, m, c, rfl, hm, r2⟩
  have l12 := Hp.le_trans l1 r2.le
  have tD := hz.mono l12
  have tE : Tab h2 2 E m ((runsR l).map rcell) := r2.tab
  conv => whnf
  refine .mk (Nat × Bool) [0, 3, 4, 5, 6] (fun (i, b) => [.v (.slice D n cap), .v (.slice E m c), .v (.bool b), .v (iv 0), .v (iv i)]) (fun _ => [])
    (fun (i, b) h' => h' = h2 ∧ i ≤ n ∧ b = (decide (n ≤ 2048) && (l.take i).all inR)) (fun (i, _) => n - i) (0, decide ((n : Int) ≤ 2048)) (fun _ => rfl) ⟨rfl, Nat.zero_le _, by simp; omega⟩ rfl rfl ?_
  rintro ⟨i, b⟩ e h' ⟨rfl, hi, hb⟩
  conv => whnf
  refine br_dec (fun h3 => ?_) (fun h3 => ?_)
  · have hi' : i < l.length := by omega
    obtain ⟨g, hg⟩ := tD.ad (by omega)
    have cell : h'.cell? (g.add (i * 1)) = some (iv l[i]) := tD.one hg (map_get hi') rfl
    have htk : (l.take (i + 1)).all inR = ((l.take i).all inR && inR l[i]) := by rw [take_succ' hi', List.all_append]; simp
    cases b with
    | false =>
      conv => whnf
      refine .ok (by omega) (by omega) ?_
      conv => whnf
      refine ⟨(i + 1, false), rfl, rfl, ⟨rfl, by omega, ?_⟩, by show n - (i + 1) < n - i; omega⟩
      rw [htk, ← Bool.and_assoc, ← hb, Bool.false_and]
    | true =>
      conv => whnf
      refine .mk g hg (by omega) (by omega) ?_
      conv => whnf
      refine .hp _ (by rw [Int.toNat_natCast]; exact cell) ?_
      conv => whnf
      refine br_dec (fun h4 => ?_) (fun h4 => ?_)
      · conv => whnf
        refine .mk g hg (by omega) (by omega) ?_
        conv => whnf
        refine .hp _ (by rw [Int.toNat_natCast]; exact cell) ?_
        conv => whnf
        refine .ok (by omega) (by omega) ?_
        conv => whnf
        refine ⟨(i + 1, decide (l[i] ≤ 31)), rfl, rfl, ⟨rfl, by omega, ?_⟩, by show n - (i + 1) < n - i; omega⟩
        rw [htk, ← Bool.and_assoc, ← hb]
        simp [inR, h4]
      · conv => whnf
        refine .ok (by omega) (by omega) ?_
        conv => whnf
        refine ⟨(i + 1, false), rfl, rfl, ⟨rfl, by omega, ?_⟩, by show n - (i + 1) < n - i; omega⟩
        rw [htk, ← Bool.and_assoc, ← hb]
        simp [inR, h4]
  · obtain rfl : i = n := by omega
    rw [List.take_of_length_le (by omega)] at hb
    have hgood : flatE ((runsR l).map zr) = 0 ↔ b = true := by
      rw [e0, hb, hl]
      simp
    conv => whnf
    refine .mk (Nat × Nat) [0, 3, 4, 5, 7] (fun (j, q) => [.v (.slice D i cap), .v (.slice E m c), .v (.bool b), .v (iv q), .v (iv j)]) (fun _ => [])
      (fun (j, q) h2 => h2 = h' ∧ j ≤ m ∧ q ≤ i ∧ l.drop q = flR (((runsR l).drop j).map zr)) (fun (j, _) => m - j) (0, 0) (fun _ => rfl) ⟨rfl, Nat.zero_le _, Nat.zero_le _, ffl.symm⟩ rfl rfl ?_
    rintro ⟨j, q⟩ e h2 ⟨rfl, hj, hq, hd⟩
    conv => whnf
    refine br_dec (fun h4 => ?_) (fun h4 => ?_)
    · have hj' : j < (runsR l).length := by omega
      obtain ⟨gE, hgE⟩ := tE.ad (by omega)
      have cE : ∀ (k : Nat) (hk : k < (runsR l).length) p v, (rcell (runsR l)[k])[p]? = some v → h2.cell? ((gE.add (k * 2)).add p) = some v := fun k hk p v hv => tE.row hgE (map_get hk) p v hv
      have hpj := hpos _ (List.getElem_mem hj')
      rw [List.drop_eq_getElem_cons hj'] at hd
      simp only [List.map_cons, zr, flR, Int.toNat_natCast] at hd
      have hle : (runsR l)[j].2 ≤ i - q := by
        have := congrArg List.length hd
        simp only [List.length_drop, List.length_append, rep_len, List.length_singleton] at this
        omega
      have c0 := cE j hj' 0 _ rfl
      have c1_ := cE j hj' 1 _ rfl
      conv => whnf
      refine .mk gE hgE (by omega) (by omega) ?_
      conv => whnf
      refine .hp _ (by rw [Int.toNat_natCast]; exact c1_) ?_
      conv => whnf
      refine br_dec (fun x => absurd x (show ¬ (((runsR l)[j].2 : Int) < 1) by omega)) (fun _ => ?_)
      conv => whnf
      refine .mk gE hgE (by omega) (by omega) ?_
      conv => whnf
      refine .hp _ (by rw [Int.toNat_natCast]; exact c1_) ?_
      conv => whnf
      refine .ok (by omega) (by omega) ?_
      conv => whnf
      refine br_dec (fun x => absurd x (show ¬ ((i : Int) - (q : Int) < ((runsR l)[j].2 : Int)) by omega)) (fun _ => ?_)
      conv => whnf
      refine br_dec (fun h5 => ?_) (fun h5 => ?_)
      all_goals try
        have hj1 : j - 1 < (runsR l).length := by omega
        have hne := hadj (j - 1) (by omega)
        rw [show (runsR l)[j - 1 + 1]'(by omega) = (runsR l)[j] by congr 1; omega] at hne
        conv => whnf
        refine .mk gE hgE (by omega) (by omega) ?_
        conv => whnf
        refine .hp _ (by rw [Int.toNat_natCast]; exact c0) ?_
        conv => whnf
        refine .ok (by omega) (by omega) ?_
        rw [show (j : Int) - 1 = ((j - 1 : Nat) : Int) by omega]
        conv => whnf
        refine .mk gE hgE (by omega) (by omega) ?_
        conv => whnf
        refine .hp _ (by rw [Int.toNat_natCast]; exact cE (j - 1) hj1 0 _ rfl) ?_
        conv => whnf
        refine br_dec (fun x => absurd x (fun y => hne y.symm)) (fun _ => ?_)
      all_goals
        conv => whnf
        refine .mk (Nat × Nat) [0, 3, 4, 5, 7, 8] (fun (k, q) => [.v (.slice D i cap), .v (.slice E m c), .v (.bool b), .v (iv q), .v (iv j), .v (iv k)]) (fun _ => [])
          (fun (k, q) h3 => h3 = h2 ∧ k ≤ (runsR l)[j].2 ∧ q + ((runsR l)[j].2 - k) ≤ i ∧ l.drop q = rep ((runsR l)[j].2 - k) [(runsR l)[j].1] ++ flR (((runsR l).drop (j + 1)).map zr)) (fun (k, _) => (runsR l)[j].2 - k) (0, q) (fun _ => rfl) ⟨rfl, Nat.zero_le _, by omega, hd⟩ rfl rfl ?_
        rintro ⟨k, q⟩ e h3 ⟨rfl, hk, hq, hd⟩
        conv => whnf
        refine .mk gE hgE (by omega) (by omega) ?_
        conv => whnf
        refine .hp _ (by rw [Int.toNat_natCast]; exact c1_) ?_
        conv => whnf
        refine br_dec (fun h6 => ?_) (fun h6 => ?_)
        · have hkz : k < (runsR l)[j].2 := by omega
          rw [show (runsR l)[j].2 - k = ((runsR l)[j].2 - (k + 1)) + 1 by omega, rep, List.append_assoc] at hd
          have hql : q < l.length := by omega
          rw [List.drop_eq_getElem_cons hql] at hd
          simp only [List.cons_append, List.nil_append, List.cons.injEq] at hd
          obtain ⟨hd1, hd2⟩ := hd
          obtain ⟨g, hg⟩ := tD.ad (by omega)
          conv => whnf
          refine .mk g hg (by omega) (by omega) ?_
          conv => whnf
          refine .hp (iv l[q]) (by rw [Int.toNat_natCast]; exact tD.one hg (map_get hql) rfl) ?_
          conv => whnf
          refine .mk gE hgE (by omega) (by omega) ?_
          conv => whnf
          refine .hp _ (by rw [Int.toNat_natCast]; exact c0) ?_
          conv => whnf
          refine br_dec (fun x => absurd hd1 x) (fun _ => ?_)
          conv => whnf
          refine .ok (by omega) (by omega) ?_
          conv => whnf
          refine .ok (by omega) (by omega) ?_
          conv => whnf
          exact ⟨(k + 1, q + 1), rfl, rfl, ⟨rfl, hkz, by omega, hd2⟩, by show (runsR l)[j].2 - (k + 1) < (runsR l)[j].2 - k; omega⟩
        · rw [show (runsR l)[j].2 - k = 0 by omega, rep, List.nil_append] at hd
          conv => whnf
          refine .ok (by omega) (by omega) ?_
          conv => whnf
          exact ⟨(j + 1, q), rfl, rfl, ⟨rfl, by omega, by omega, hd⟩, by show m - (j + 1) < m - j; omega⟩
    · rw [show (runsR l).drop j = [] from List.drop_of_length_le (by omega)] at hd
      have hqn : q = i := by
        have := congrArg List.length hd
        simp only [List.length_drop, List.map_nil, flR, List.length_nil] at this
        omega
      subst hqn
      have tz : Tab h2 2 E m (((runsR l).map zr).map zcell) := by rw [rc_zr]; exact tE
      conv => whnf
      refine .done (.mk _ (flat33 E m c _ h2 tz (by omega)) ?_)
      rintro _ h7 ⟨F, k7, d7, rfl, r7⟩
      have l17 := Hp.le_trans l12 r7.le
      conv => whnf
      refine br_dec (fun x => absurd rfl x) (fun _ => ?_)
      have hdec : decide (flatE ((runsR l).map zr) = 0) = b := by
        cases b with
        | true => exact decide_eq_true (hgood.2 rfl)
        | false => exact decide_eq_false fun x => by cases hgood.1 x
      conv => whnf
      refine br_intro (fun x => absurd x ?_) (fun _ => ?_)
      · show ¬ (flip true (decide (flatE ((runsR l).map zr) = 0) == b)) = true
        rw [hdec]
        simp [flip]
      conv => whnf
      refine .done (.mk _ (awake16 _) ?_)
      rintro _ h8 ⟨rfl, l8⟩
      cases b with
      | false =>
        conv => whnf
        exact .done ⟨rfl, Hp.le_trans l17 l8⟩
      | true =>
        have hfe := hgood.2 rfl
        have hout : outR ((runsR l).map zr) = l := by unfold outR; rw [if_pos hfe, ffl]
        have r8 := r7.row.mono l8
        rw [hout] at r8
        conv => whnf
        refine .done (.mk _ (same24 _ _ _ _ _ _ _ _ _ r8.nums (hz.mono (Hp.le_trans l17 l8)) (by have := row_n r8; omega)) ?_)
        rintro _ _ ⟨rfl, rfl⟩
        rw [decide_eq_true rfl]
        conv => whnf
        exact .done ⟨rfl, Hp.le_trans l17 l8⟩
end Go.Sx
