/- Maximal runs: the document's answer; runs compared. Conditions: none. -/
import Derived.Test.YtnfmbjeicloemaaN16Q
namespace Go.Sx
open Go.Proofs
theorem rc_wid (l : List Rn) : ∀ r ∈ l.map rcell, r.length = 2 := by
  intro r hr
  obtain ⟨a, _, rfl⟩ := List.mem_map.1 hr
  rfl
theorem Rw.tab {h h' : Hp} {D : Option Addr} {m c : Nat} {q : List Rn} (x : Rw 52 2 h h' D m c (rcells q)) : Tab h' 2 D m (q.map rcell) := x.row.tab (rc_wid q) (by decide)
theorem rc_last (p : List Rn) (y : Int) (k : Nat) (v : Value) : (rcells (p ++ [(y, k)])).set (p.length * 2 + 1) v = rcells p ++ [iv y, v] := by
  rw [rcells_app, List.set_append_right _ _ (by rw [rcells_len]; omega), rcells_len, show p.length * 2 + 1 - p.length * 2 = 1 by omega]
  rfl
theorem runs30 (D : Option Addr) (n cap : Nat) (l : List Int) (h : Hp) (hz : Tab h 1 D n (l.map fun z => [iv z])) (hn : n ≤ 8796093022207) :
    Fn Try.prog 30 #[.slice D n cap] h fun v h' => ∃ E m c, v = .slice E m c ∧ m = (runsR l).length ∧ Rw 52 2 h h' E m c (rcells (runsR l)) := by
  have hl : l.length = n := by simpa using hz.len
  have hrl := runsR_len l
  refine Fn.intro (args := [.slice D n cap]) mix16 Try.func30 rfl (by decide) Try.ntmps30 rfl (low30 rfl) rfl ?_
  conv => whnf
  refine .mkS [] (Nat × Option Addr × Nat × Nat × List Rn) [0, 3, 4] (fun (i, E, m, c, _) => [.v (.slice D n cap), .v (.slice E m c), .v (iv i)]) (fun _ => [])
    (fun (i, E, m, c, q) h' => i ≤ n ∧ m = q.length ∧ Rw 52 2 h h' E m c (rcells q) ∧ ((i = 0 ∧ q = []) ∨ ∃ p y k, 0 < i ∧ l[i - 1]? = some y ∧ q = p ++ [(y, k + 1)] ∧ k < i ∧ runsR l = p ++ runsR (List.replicate (k + 1) y ++ l.drop i))) (fun (i, _, _, _, _) => n - i) (0, none, 0, 0, []) (fun _ => rfl) ⟨Nat.zero_le _, rfl, Rw.nil 52 2 h, .inl ⟨rfl, rfl⟩⟩ rfl rfl rfl ?_
  rintro ⟨i, E, m, c, q⟩ e h' ⟨hi, hm, hq, he⟩
  refine .done ?_
  have hql : m ≤ n := by
    rcases he with ⟨_, rfl⟩ | ⟨p, y, k, h1, h2, rfl, h4, h5⟩
    · rw [hm]; exact Nat.zero_le _
    · have h6 := congrArg List.length h5
      have h7 : 1 ≤ (runsR (List.replicate (k + 1) y ++ l.drop i)).length := by
        rw [List.replicate_succ, List.cons_append, runsR]
        split
        · split <;> simp
        · simp
      rw [List.length_append] at h6
      rw [hm]
      simp only [List.length_append, List.length_cons, List.length_nil]
      omega
  conv => whnf
  refine br_dec (fun h1 => ?_) (fun h1 => ?_)
  · have hi' : i < l.length := by omega
    obtain ⟨g, hg⟩ := hz.ad (by omega)
    have at_ : ∀ (h' : Hp) (k : Nat) (hk : k < l.length), h.le h' → h'.cell? (g.add (k * 1)) = some (iv l[k]) := fun h' k hk x => by
      exact (hz.mono x).one hg (map_get hk) rfl
    -- a new run
    have fresh : (l[i]'hi', 1) = (l[i], 0 + 1) ∧ (∀ p y k, 0 < i → l[i - 1]? = some y → q = p ++ [(y, k + 1)] → k < i → runsR l = p ++ runsR (List.replicate (k + 1) y ++ l.drop i) → y ≠ l[i] → runsR l = q ++ runsR (List.replicate (0 + 1) l[i] ++ l.drop (i + 1))) := ⟨rfl, fun p y k _ _ e3 _ e5 hne => by
      rw [e5, drop_at hi', runsR_rep y _ (by rw [List.head?_cons]; intro e; injection e with e; exact hne e.symm), e3, List.append_assoc]
      rfl⟩
    conv => whnf
    refine br_dec (fun h2 => ?_) (fun h2 => ?_)
    · obtain ⟨p, y, k, e1, e2, rfl, e4, e5⟩ := he.resolve_left (by omega)
      have hi1 : i - 1 < l.length := by omega
      rw [List.getElem?_eq_getElem hi1] at e2
      injection e2 with e2
      conv => whnf
      refine .mk g hg (by omega) (by omega) ?_
      conv => whnf
      refine .hp _ (by rw [Int.toNat_natCast]; exact at_ h' i hi' hq.le) ?_
      conv => whnf
      refine .ok (by omega) (by omega) ?_
      rw [show (i : Int) - 1 = ((i - 1 : Nat) : Int) by omega]
      conv => whnf
      refine .mk g hg (by omega) (by omega) ?_
      conv => whnf
      refine .hp _ (by rw [Int.toNat_natCast]; exact at_ h' (i - 1) hi1 hq.le) ?_
      conv => whnf
      refine br_dec (fun h3 => ?_) (fun h3 => ?_)
      · have hpm : m - 1 = p.length := by rw [hm]; simp
        have hm1 : 1 ≤ m := by rw [hm]; simp
        have htab := hq.tab
        obtain ⟨gg, cs, cs', q1, q2, q3, q4⟩ := hq.row.write (off := (m - 1) * 2 + 1) (by omega) (iv ((k + 1 + 1 : Nat) : Int))
        subst q1
        conv => whnf
        refine .ok (by omega) (by omega) ?_
        rw [show (m : Int) - 1 = ((m - 1 : Nat) : Int) by omega]
        conv => whnf
        refine .mk ⟨gg, 0, none⟩ rfl (by omega) (by omega) ?_
        conv => whnf
        refine .hp (iv ((k + 1 : Nat) : Int)) (by
          rw [Int.toNat_natCast, hpm]
          exact htab.row rfl (i := p.length) (by rw [List.map_append, List.getElem?_append_right (by simp)]; simp; rfl) 1 _ rfl) ?_
        conv => whnf
        refine .ok (by omega) (by omega) ?_
        conv => whnf
        refine .mk ⟨gg, 0, none⟩ rfl (by omega) (by omega) ?_
        conv => whnf
        refine .hp gg ((m - 1) * 2 + 1) 52 cs cs' (by rw [Int.toNat_natCast, add_lit, add_lit, Nat.zero_add]) q2 q3 ?_
        conv => whnf
        refine .ok (by omega) (by omega) ?_
        conv => whnf
        refine .done ⟨(i + 1, some ⟨gg, 0, none⟩, m, c, p ++ [(y, k + 1 + 1)]), rfl, rfl, ⟨by omega, by rw [hm]; simp, ?_, .inr ⟨p, y, k + 1, by omega, ?_, rfl, by omega, ?_⟩⟩, by show n - (i + 1) < n - i; omega⟩
        · rw [hpm, rc_last] at q4
          exact hq.put rfl (by rw [rcells_app]; exact q4)
        · rw [show i + 1 - 1 = i by omega, List.getElem?_eq_getElem hi', ← e2]
          exact congrArg some h3
        · rw [e5, drop_at hi', h3, e2, List.replicate_succ' (n := k + 1), List.append_assoc]
          rfl
      · have hf := fresh.2 p y k e1 (by rw [List.getElem?_eq_getElem hi1, e2]) rfl e4 e5 (fun e => h3 (by rw [e2, e]))
        conv => whnf
        refine .mk g hg (by omega) (by omega) ?_
        conv => whnf
        refine .hp _ (by rw [Int.toNat_natCast]; exact at_ h' i hi' hq.le) ?_
        conv => whnf
        refine .abs 52 2 E m c _ hq.row (.done (.old 1 _ (rcell (l[i], 1)) rfl rfl (by intro u hu; simp only [rcell, List.mem_cons, List.not_mem_nil, or_false] at hu; rcases hu with rfl | rfl <;> rfl) (by simp [maxLen]; omega) (by omega) fun E2 c2 hE2 => ?_))
        conv => whnf
        refine .ok (by omega) (by omega) ?_
        conv => whnf
        refine .pub 1 52 2 E2 (m + 1) c2 _ rfl fun h4 l4 hro hfr => .done ⟨(i + 1, E2, m + 1, c2, (p ++ [(y, k + 1)]) ++ [(l[i], 0 + 1)]), rfl, rfl, ⟨by omega, by simp [hm], ?_, .inr ⟨p ++ [(y, k + 1)], l[i], 0, by omega, by rw [show i + 1 - 1 = i by omega, List.getElem?_eq_getElem hi'], rfl, by omega, hf⟩⟩, by show n - (i + 1) < n - i; omega⟩
        rw [rcells_app (p ++ [(y, k + 1)])]
        exact hq.step (Hp.le_refl _) l4 hro hfr
    · obtain ⟨rfl, rfl⟩ := he.resolve_right (fun ⟨_, _, _, h3, _⟩ => by omega)
      conv => whnf
      refine .mk g hg (by omega) (by omega) ?_
      conv => whnf
      refine .hp _ (by rw [Int.toNat_natCast]; exact at_ h' 0 hi' hq.le) ?_
      conv => whnf
      refine .abs 52 2 E m c _ hq.row (.done (.old 1 _ (rcell (l[0], 1)) rfl rfl (by intro u hu; simp only [rcell, List.mem_cons, List.not_mem_nil, or_false] at hu; rcases hu with rfl | rfl <;> rfl) (by simp [maxLen]; omega) (by omega) fun E2 c2 hE2 => ?_))
      conv => whnf
      refine .ok (by omega) (by omega) ?_
      conv => whnf
      refine .pub 1 52 2 E2 (m + 1) c2 _ rfl fun h4 l4 hro hfr => .done ⟨(0 + 1, E2, m + 1, c2, [] ++ [(l[0], 0 + 1)]), rfl, rfl, ⟨by omega, by simp [hm], ?_, .inr ⟨[], l[0], 0, by omega, by rw [show 0 + 1 - 1 = 0 by omega, List.getElem?_eq_getElem hi'], rfl, by omega, ?_⟩⟩, by show n - (0 + 1) < n - 0; omega⟩
      · rw [rcells_app]
        exact hq.step (Hp.le_refl _) l4 hro hfr
      · rw [List.nil_append, show List.replicate (0 + 1) l[0] ++ l.drop (0 + 1) = l from (drop_at hi').symm]
  · obtain rfl : i = n := by omega
    have hqr : q = runsR l := by
      rcases he with ⟨rfl, rfl⟩ | ⟨p, y, k, h1, h2, rfl, h4, h5⟩
      · rw [List.eq_nil_of_length_eq_zero hl]; rfl
      · rw [h5, List.drop_of_length_le (by omega), runsR_rep y [] (by simp)]; rfl
    rw [hqr] at hq hm
    conv => whnf
    exact .done ⟨E, m, c, rfl, hm, hq⟩
end Go.Sx
