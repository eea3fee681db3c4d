/- All lists of a nest, in one list. Conditions: none. -/
import Derived.Test.YtnfmbjeicloemaaN16Z
namespace Go.Sx
open Go.Proofs
/-- a list of slices under way -/
structure RowS (h h' : Hp) (D : Option Addr) (n c : Nat) (q : List Sl) : Prop where
  le : h.le h'
  row : RowAt h' 22 1 D n c (q.map slv)
  fr : ∀ g, D = some g → h g.block = none
theorem RowS.nil (h : Hp) : RowS h h none 0 0 [] := ⟨Hp.le_refl h, ⟨rfl, .inl ⟨rfl, rfl, rfl⟩⟩, fun _ e => by cases e⟩
theorem RowS.n {h h' : Hp} {D : Option Addr} {n c : Nat} {q : List Sl} (x : RowS h h' D n c q) : n = q.length := by
  have := x.row.1
  simp at this
  exact this.symm
theorem slv_one (l : List Sl) : ∀ u ∈ l.map slv, u.oneCell' = true := by
  intro u hu
  obtain ⟨z, _, rfl⟩ := List.mem_map.1 hu
  rfl
theorem lists49 : ∀ (N : Nat) (l : Lo), l.cnt < N → l.cnt ≤ 200000 → ∀ (A : Option Addr) (m cap : Nat) (base h : Hp) (D : Option Addr) (n c : Nat) (q : List Sl), SAt base A m l → RowS base h D n c q → q.length + l.cnt ≤ 600000 →
    Fn Try.prog 49 #[.slice A m cap, .slice D n c] h fun v h' => ∃ D' n' c', v = .slice D' n' c' ∧ RowS base h' D' n' c' (q ++ colL A m cap l)
  | 0, l, hN, _ => absurd hN (Nat.not_lt_zero _)
  | N + 1, l, hN, hc0 => by
    intro A m cap base h D n c q hs hq hql
    have hm : m ≤ 200000 := by have := hs.1; have := l.len_cnt; omega
    refine Fn.intro (args := [.slice A m cap, .slice D n c]) mix16 Try.func49 rfl (by decide) Try.ntmps49 rfl (low49 rfl) rfl ?_
    conv => whnf
    refine .mk (Nat × Option Addr × Nat × Nat × List Sl × Lo) [0, 1, 5] (fun (i, D, n, c, _, _) => [.v (.slice A m cap), .v (.slice D n c), .v (iv i)]) (fun _ => [])
      (fun (i, D, n, c, q', r) h' => RowS base h' D n c q' ∧ Tl base A m i r ∧ r.cnt ≤ l.cnt ∧ q'.length + r.cnt ≤ 600000 ∧ q' ++ bods r = q ++ bods l) (fun (i, _, _, _, _, _) => m - i) (0, D, n, c, q, l) (fun _ => rfl) ⟨hq, hs.tl, Nat.le_refl _, hql, rfl⟩ rfl rfl ?_
    rintro ⟨i, D, n, c, q', r⟩ e h' ⟨hq, ht, hrl, hql, he⟩
    conv => whnf
    refine br_dec (fun h2 => ?_) (fun h2 => ?_)
    · cases r with
      | nil => have := ht.fin; omega
      | cons t w B m' cc b r =>
        obtain ⟨g, hA, hi, hc, hb, hr⟩ := ht.open
        simp only [Lo.cnt] at hrl hql
        conv => whnf
        refine .mk g hA (by omega) (by omega) ?_
        conv => whnf
        refine .hp (.slice B m' cc) (by rw [Int.toNat_natCast]; exact Hp.cell_le hq.le (hc 2 _ rfl)) ?_
        conv => whnf
        refine br_dec (fun h3 => ?_) (fun h3 => ?_)
        · conv => whnf
          refine .mk g hA (by omega) (by omega) ?_
          conv => whnf
          refine .hp (.slice B m' cc) (by rw [Int.toNat_natCast]; exact Hp.cell_le hq.le (hc 2 _ rfl)) ?_
          conv => whnf
          refine .done (.mk _ (lists49 N b (by omega) (by omega) B m' cc base h' D n c q' hb hq (by omega)) ?_)
          rintro _ h2 ⟨D2, n2, c2, rfl, hq2⟩
          conv => whnf
          refine .ok (by omega) (by omega) ?_
          conv => whnf
          have hbc := bods_cnt b
          refine ⟨(i + 1, D2, n2, c2, q' ++ colL B m' cc b, r), rfl, rfl, ⟨hq2, hr, by omega, ?_, ?_⟩, by show m - (i + 1) < m - i; omega⟩
          · simp only [colL, List.length_append, List.length_singleton]; omega
          · rw [← he]
            simp only [bods, colL]
            rw [if_neg (by omega)]
            simp only [List.append_assoc]
        · conv => whnf
          refine .ok (by omega) (by omega) ?_
          conv => whnf
          refine ⟨(i + 1, D, n, c, q', r), rfl, rfl, ⟨hq, hr, by omega, by omega, ?_⟩, by show m - (i + 1) < m - i; omega⟩
          rw [← he]
          simp only [bods]
          rw [if_pos (by omega)]
          rfl
    · conv => whnf
      cases r with
      | nil =>
        have hn := hq.n
        simp only [bods, List.append_nil] at he
        refine .abs 22 1 D n c _ hq.row (.done (.old 1 _ [.slice A m cap] rfl rfl (slv_one [(A, m, cap)]) (by simp [maxLen]; simp only [Lo.cnt] at hql; omega) (by simp only [Lo.cnt] at hql; omega) fun D2 c3 hD2 => ?_))
        conv => whnf
        refine .pub 1 22 1 D2 (n + 1) c3 _ rfl fun h3 l3 hro hf => .done ⟨D2, n + 1, c3, rfl, ?_⟩
        have hA : base.le (delA h' D) := delA_none hq.le hq.fr
        refine ⟨Hp.le_trans hA l3, ?_, fun g e => Hp.none_le hA (hf g e)⟩
        rw [← show q' ++ [(A, m, cap)] = q ++ colL A m cap l by rw [he, colL, List.append_assoc], List.map_append]
        exact hro
      | cons => obtain ⟨g, hA, hi, _⟩ := ht.open; omega
end Go.Sx
