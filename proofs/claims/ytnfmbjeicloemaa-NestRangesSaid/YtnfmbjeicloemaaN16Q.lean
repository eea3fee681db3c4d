/- Maximal runs of a list. Conditions: none. -/
import Derived.Test.YtnfmbjeicloemaaN16O
namespace Go.Sx
open Go.Proofs
/-- a row under way -/
structure Rw (ety size : Nat) (h h' : Hp) (D : Option Addr) (n c : Nat) (xs : List Value) : Prop where
  le : h.le h'
  row : RowAt h' ety size D n c xs
  fr : ∀ g, D = some g → h g.block = none
theorem Rw.nil (ety size : Nat) (h : Hp) : Rw ety size h h none 0 0 [] := ⟨Hp.le_refl h, ⟨by simp, .inl ⟨rfl, rfl, rfl⟩⟩, fun _ e => by cases e⟩
theorem Rw.step {ety size : Nat} {h h' h2 h3 : Hp} {D D2 : Option Addr} {n c n2 c2 : Nat} {q w : List Value} (x : Rw ety size h h' D n c q) (l2 : h'.le h2) (l3 : (delA h2 D).le h3) (hr : RowAt h3 ety size D2 n2 c2 (q ++ w)) (hf : ∀ g, D2 = some g → delA h2 D g.block = none) : Rw ety size h h3 D2 n2 c2 (q ++ w) := by
  have hA : h.le (delA h2 D) := delA_none (Hp.le_trans x.le l2) x.fr
  exact ⟨Hp.le_trans hA l3, hr, fun g e => Hp.none_le hA (hf g e)⟩
theorem Rw.put {ety size : Nat} {h h' : Hp} {D : Option Addr} {n c g : Nat} {q q' : List Value} {o : Obj} (x : Rw ety size h h' D n c q) (hD : D = some ⟨g, 0, none⟩) (hr : RowAt (h'.put g o) ety size D n c q') : Rw ety size h (h'.put g o) D n c q' :=
  ⟨fun j o' e => by
    have hg : h g = none := x.fr _ hD
    have : j ≠ g := fun q => by rw [q, hg] at e; cases e
    rw [Hp.put_ne _ _ this]; exact x.le j o' e, hr, x.fr⟩
abbrev Rn := Int × Nat
def rcell (r : Rn) : List Value := [iv r.1, iv r.2]
def rcells (l : List Rn) : List Value := (l.map rcell).flatten
theorem rcells_app (a b : List Rn) : rcells (a ++ b) = rcells a ++ rcells b := by simp [rcells]
theorem rcells_len (a : List Rn) : (rcells a).length = a.length * 2 := by
  induction a with
  | nil => rfl
  | cons x a ih => simp [rcells, rcell] at ih ⊢; omega
theorem rcells_one (a : List Rn) : ∀ u ∈ rcells a, u.oneCell' = true := by
  intro u hu
  simp only [rcells, List.mem_flatten, List.mem_map] at hu
  obtain ⟨_, ⟨r, _, rfl⟩, hu⟩ := hu
  simp only [rcell, List.mem_cons, List.not_mem_nil, or_false] at hu
  rcases hu with rfl | rfl <;> rfl
def runsR : List Int → List Rn
  | [] => []
  | x :: l => match runsR l with
    | (y, k) :: r => if y = x then (x, k + 1) :: r else (x, 1) :: (y, k) :: r
    | [] => [(x, 1)]
theorem runsR_head : ∀ l : List Int, (runsR l).head?.map (·.1) = l.head?
  | [] => rfl
  | x :: l => by
    simp only [runsR]
    split
    · split <;> rfl
    · rfl
theorem runsR_len : ∀ l : List Int, (runsR l).length ≤ l.length
  | [] => Nat.le_refl _
  | x :: l => by
    have := runsR_len l
    simp only [runsR]
    split
    · rename_i h
      rw [h] at this
      split <;> simp_all <;> omega
    · simp
theorem runsR_rep (x : Int) (t : List Int) (ht : t.head? ≠ some x) : ∀ k : Nat, runsR (List.replicate (k + 1) x ++ t) = (x, k + 1) :: runsR t
  | 0 => by
    have := runsR_head t
    show runsR (x :: t) = _
    simp only [runsR]
    split
    · rename_i y k r h
      rw [h] at this
      simp only [List.head?_cons, Option.map_some] at this
      rw [if_neg (fun e => ht (by rw [← this, e])), h]
    · rename_i h; rw [h]
  | k + 1 => by
    rw [List.replicate_succ, List.cons_append, runsR, runsR_rep x t ht k]
    simp
theorem drop_at {l : List Int} {i : Nat} (hi : i < l.length) : l.drop i = l[i] :: l.drop (i + 1) := List.drop_eq_getElem_cons hi
theorem head_drop (l : List Int) (i : Nat) : (l.drop i).head? = l[i]? := by simp [List.head?_drop]
theorem runs29 (D : Option Addr) (n cap : Nat) (l : List Int) (h : Hp) (hz : Tab h 1 D n (l.map fun z => [iv z])) (hn : n ≤ 8796093022207) :
    Fn Try.prog 29 #[.slice D n cap] h fun v h' => ∃ E m c, v = .slice E m c ∧ m = (runsR l).length ∧ Rw 52 2 h h' E m c (rcells (runsR l)) := by
  have hl : l.length = n := by simpa using hz.len
  have hrl := runsR_len l
  refine Fn.intro (args := [.slice D n cap]) mix16 Try.func29 rfl (by decide) Try.ntmps29 rfl (low29 rfl) rfl ?_
  conv => whnf
  refine .mkS [] (Nat × Option Addr × Nat × Nat × List Rn) [0, 3, 4] (fun (i, E, m, c, _) => [.v (.slice D n cap), .v (.slice E m c), .v (iv i)]) (fun _ => [])
    (fun (i, E, m, c, q) h' => i ≤ n ∧ m = q.length ∧ Rw 52 2 h h' E m c (rcells q) ∧ q ++ runsR (l.drop i) = runsR l) (fun (i, _, _, _, _) => n - i) (0, none, 0, 0, []) (fun _ => rfl) ⟨Nat.zero_le _, rfl, Rw.nil 52 2 h, rfl⟩ rfl rfl rfl ?_
  rintro ⟨i, E, m, c, q⟩ e h' ⟨hi, hm, hq, he⟩
  refine .done ?_
  conv => whnf
  refine br_dec (fun h1 => ?_) (fun h1 => ?_)
  · have hi' : i < l.length := by omega
    obtain ⟨g, hg⟩ := hz.ad (by omega)
    have at_ : ∀ (h' : Hp) (k : Nat) (hk : k < l.length), h.le h' → h'.cell? (g.add (k * 1)) = some (iv l[k]) := fun h' k hk x => by
      exact (hz.mono x).one hg (map_get hk) rfl
    conv => whnf
    refine .mkS [] Nat [0, 3, 4, 5] (fun k => [.v (.slice D n cap), .v (.slice E m c), .v (iv i), .v (iv k)]) (fun _ => [])
      (fun k h' => i ≤ k ∧ k ≤ n ∧ Rw 52 2 h h' E m c (rcells q) ∧ l.drop i = List.replicate (k - i) l[i] ++ l.drop k) (fun k => n - k) i (fun _ => rfl) ⟨Nat.le_refl _, hi, hq, by rw [Nat.sub_self]; rfl⟩ rfl rfl rfl ?_
    rintro k e h' ⟨hk1, hk2, hq, hd⟩
    refine .done ?_
    have fin : l[k]? ≠ some l[i] → i < k → q ++ ((l[i], k - i) :: runsR (l.drop k)) = runsR l := fun hne hik => by
      rw [← he, hd, show k - i = (k - i - 1) + 1 by omega, runsR_rep _ _ (by rw [head_drop]; exact hne)]
    conv => whnf
    refine br_dec (fun h2 => ?_) (fun h2 => ?_)
    · have hk' : k < l.length := by omega
      conv => whnf
      refine .mk g hg (by omega) (by omega) ?_
      conv => whnf
      refine .hp _ (by rw [Int.toNat_natCast]; exact at_ h' k hk' hq.le) ?_
      conv => whnf
      refine .mk g hg (by omega) (by omega) ?_
      conv => whnf
      refine .hp _ (by rw [Int.toNat_natCast]; exact at_ h' i hi' hq.le) ?_
      conv => whnf
      refine br_dec (fun h3 => ?_) (fun h3 => ?_)
      · conv => whnf
        refine .ok (by omega) (by omega) ?_
        conv => whnf
        refine .done ⟨k + 1, rfl, rfl, ⟨by omega, by omega, hq, ?_⟩, by omega⟩
        rw [hd, drop_at hk', h3, show k + 1 - i = (k - i) + 1 by omega, List.replicate_succ', List.append_assoc]
        rfl
      · have hik : i < k := by
          rcases Nat.lt_or_ge i k with h4 | h4
          · exact h4
          · obtain rfl : i = k := by omega
            exact absurd rfl h3
        have hf := fin (by rw [List.getElem?_eq_getElem hk']; intro e; injection e with e; exact h3 e) hik
        conv => whnf
        refine .mk g hg (by omega) (by omega) ?_
        conv => whnf
        refine .hp _ (by rw [Int.toNat_natCast]; exact at_ h' i hi' hq.le) ?_
        conv => whnf
        refine .ok (by omega) (by omega) ?_
        rw [show (k : Int) - (i : Int) = ((k - i : Nat) : Int) by omega]
        have hql : q.length ≤ n := by
          have := congrArg List.length hf
          simp at this; omega
        conv => whnf
        refine .abs 52 2 E m c _ hq.row (.done (.old 1 _ (rcell (l[i], k - i)) rfl rfl (by intro u hu; simp only [rcell, List.mem_cons, List.not_mem_nil, or_false] at hu; rcases hu with rfl | rfl <;> rfl) (by simp [maxLen]; omega) (by omega) fun E2 c2 hE2 => ?_))
        conv => whnf
        refine .pub 1 52 2 E2 (m + 1) c2 _ rfl fun h4 l4 hro hfr => .done ⟨(k, E2, m + 1, c2, q ++ [(l[i], k - i)]), rfl, rfl, ⟨hk2, by simp [hm], ?_, by rw [List.append_assoc]; exact hf⟩, by show n - k < n - i; omega⟩
        rw [rcells_app]
        exact hq.step (Hp.le_refl _) l4 hro hfr
    · obtain rfl : k = n := by omega
      have hf := fin (by rw [List.getElem?_eq_none (by omega)]; simp) (by omega)
      conv => whnf
      refine .mk g hg (by omega) (by omega) ?_
      conv => whnf
      refine .hp _ (by rw [Int.toNat_natCast]; exact at_ h' i hi' hq.le) ?_
      conv => whnf
      refine .ok (by omega) (by omega) ?_
      rw [show (k : Int) - (i : Int) = ((k - i : Nat) : Int) by omega]
      have hql : q.length ≤ k := by
        have := congrArg List.length hf
        simp at this; omega
      conv => whnf
      refine .abs 52 2 E m c _ hq.row (.done (.old 1 _ (rcell (l[i], k - i)) rfl rfl (by intro u hu; simp only [rcell, List.mem_cons, List.not_mem_nil, or_false] at hu; rcases hu with rfl | rfl <;> rfl) (by simp [maxLen]; omega) (by omega) fun E2 c2 hE2 => ?_))
      conv => whnf
      refine .pub 1 52 2 E2 (m + 1) c2 _ rfl fun h4 l4 hro hfr => .done ⟨(k, E2, m + 1, c2, q ++ [(l[i], k - i)]), rfl, rfl, ⟨hk2, by simp [hm], ?_, by rw [List.append_assoc]; exact hf⟩, by show k - k < k - i; omega⟩
      rw [rcells_app]
      exact hq.step (Hp.le_refl _) l4 hro hfr
  · obtain rfl : i = n := by omega
    rw [List.drop_of_length_le (by omega)] at he
    have hqr : q = runsR l := by rw [← he]; simp [runsR]
    rw [hqr] at hq hm
    conv => whnf
    exact .done ⟨E, m, c, rfl, hm, hq⟩
end Go.Sx
