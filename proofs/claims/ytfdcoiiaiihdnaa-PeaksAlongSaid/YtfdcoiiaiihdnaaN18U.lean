/- Layer 18: Apart. Conditions: none. -/
import Derived.Test.YtfdcoiiaiihdnaaN18T
namespace Go.Sx
open Go.Proofs
abbrev Sl := Option Addr × Nat × Nat
def slv (x : Sl) : Value := .slice x.1 x.2.1 x.2.2
def longC (m : Nat) (J : Nat → Sl) : List Value := (List.range m).map fun i => .slice (J i).1 (J i).2.1 (J i).2.2
theorem longC_set {m i : Nat} {J : Nat → Sl} (x : Sl) : (longC m J).set i (.slice x.1 x.2.1 x.2.2) = longC m (updJ J i x) := by
  apply List.ext_getElem
  · simp [longC]
  · intro v h1 h2
    rw [List.getElem_set]
    by_cases e : i = v
    · subst e; simp [longC, updJ]
    · simp [longC, updJ, e, Ne.symm e]
theorem longC_at {m i : Nat} {J : Nat → Sl} (hi : i < m) : (longC m J)[i]? = some (.slice (J i).1 (J i).2.1 (J i).2.2) := by simp [longC, hi]
theorem longC_len (m : Nat) (J : Nat → Sl) : (longC m J).length = m := by simp [longC]
/-- the lists of numbers, as they lie -/
def Raw (X : Hp) (s : Sl) (l : List Int) : Prop := l.length = s.2.1 ∧ RowAt X 3 1 s.1 s.2.1 s.2.2 (l.map iv)
theorem apart15 {B h : Hp} {m c0 : Nat} {A0 : Option Addr} {X : Nat → Hp} (I : Nat → Sl) (f : FamA B h m X) (ht : Tab B 1 A0 m ((List.range m).map fun i => [Value.slice (I i).1 (I i).2.1 (I i).2.2])) (hraw : ∀ i, i < m → ∃ l, Raw (X i) (I i) l) (hm : m ≤ 4294967296) (hn : ∀ i, i < m → (I i).2.1 ≤ 1000000) :
    Fn Try.prog 15 #[.slice A0 m c0] h fun v h' => v = .bool true ∧ B.le h' := by
  refine Fn.intro (args := [.slice A0 m c0]) mix14 Try.func15 rfl (by decide) Try.ntmps15 rfl (low15 rfl) rfl ?_
  conv => whnf
  refine EvMake.one m (.slice none 0 0) rfl rfl rfl rfl (by omega) (by omega) fun gl => ?_
  rw [show List.replicate m (Value.slice none 0 0) = longC m fun _ => (none, 0, 0) by simp [longC, List.map_const']]
  conv => whnf
  refine .mk (Nat × (Nat → Hp) × (Nat → Sl)) [0, 3, 4] (fun (i, _, _) => [.v (.slice A0 m c0), .v (.slice (some gl) m m), .v (iv i)]) (fun (_, _, J) => [.row 25 1 (some gl) m m (longC m J)])
    (fun (i, X, J) h' => FamA B h' m X ∧ i ≤ m ∧ ∀ q, q < m → ∃ l, Raw (X q) (I q) l ∧ (q < i → l = marks q (I q).2.1 ∧ J q = I q)) (fun (i, _, _) => m - i) (0, X, fun _ => (none, 0, 0)) (fun (_, _, _) => rfl)
    ⟨f, Nat.zero_le _, fun q hq => by obtain ⟨l, hl⟩ := hraw q hq; exact ⟨l, hl, fun h => absurd h (Nat.not_lt_zero q)⟩⟩ rfl rfl ?_
  rintro ⟨i, X, J⟩ e h1 ⟨f, hi, hst⟩
  conv => whnf
  refine br_dec (fun u1 => ?_) (fun u1 => ?_)
  · have hi' : i < m := by omega
    have hni := hn i hi'
    obtain ⟨g0, hg0⟩ := ht.ad (by omega)
    have hload : ∀ hh : Hp, B.le hh → hh.cell? (g0.add (i * 1)) = some (.slice (I i).1 (I i).2.1 (I i).2.2) := fun hh hl => (ht.mono hl).one hg0 (map_range hi') rfl
    obtain ⟨l0, hl0, _⟩ := hst i hi'
    conv => whnf
    refine .mk (Nat × (Nat → Hp)) [0, 3, 4, 5] (fun (k, _) => [.v (.slice A0 m c0), .v (.slice (some gl) m m), .v (iv i), .v (iv k)]) (fun _ => [.row 25 1 (some gl) m m (longC m J)])
      (fun (k, X) h' => FamA B h' m X ∧ k ≤ (I i).2.1 ∧ (∃ l, Raw (X i) (I i) l ∧ l.take k = (marks i (I i).2.1).take k) ∧ ∀ q, q < m → q ≠ i → ∃ l, Raw (X q) (I q) l ∧ (q < i → l = marks q (I q).2.1 ∧ J q = I q)) (fun (k, _) => (I i).2.1 - k) (0, X) (fun (_, _) => rfl)
      ⟨f, Nat.zero_le _, ⟨l0, hl0, by simp⟩, fun q hq _ => hst q hq⟩ rfl rfl ?_
    rintro ⟨k, X⟩ e2 h2 ⟨f, hk, ⟨l, ⟨hll, hro⟩, hlt⟩, hoth⟩
    conv => whnf
    refine .mk g0 hg0 (by omega) (by omega) ?_
    conv => whnf
    refine .hp _ (by rw [Int.toNat_natCast]; exact hload _ f.le) ?_
    conv => whnf
    refine br_dec (fun u2 => ?_) (fun u2 => ?_)
    · have hk' : k < (I i).2.1 := by omega
      obtain ⟨g, cs, cs', e1, e2, e3, e4⟩ := (hro.mono (f.sub i hi')).write (off := k) (by omega) (iv ((i : Int) * 1000003 + k))
      have hgX := hro.mem e1
      conv => whnf
      refine .mk g0 hg0 (by omega) (by omega) ?_
      conv => whnf
      refine .hp _ (by rw [Int.toNat_natCast]; exact hload _ f.le) ?_
      conv => whnf
      refine .ok (by omega) (by omega) ?_
      conv => whnf
      refine .ok (by omega) (by omega) ?_
      conv => whnf
      refine .mk ⟨g, 0, none⟩ e1 (by omega) (by omega) ?_
      conv => whnf
      refine .hp g k 3 cs cs' (by rw [Int.toNat_natCast, add_lit, Nat.mul_one, Nat.zero_add]) e2 e3 ?_
      conv => whnf
      refine .ok (by omega) (by omega) ?_
      conv => whnf
      have hmk : (marks i (I i).2.1)[k]'(by rw [marks_len]; exact hk') = (i : Int) * 1000003 + k := by simp [marks]
      have f2 := f.upd (h' := h2.put g (.cells cs'.toArray 3 (0, 0))) (X' := (h2.put g (.cells cs'.toArray 3 (0, 0))).on fun j => j = g) hi' (fun j o q => by
        obtain ⟨q1, q2⟩ := Hp.minus_some q
        rw [Hp.put_ne _ _ (fun w => hgX (by rw [show (⟨g, 0, none⟩ : Addr).block = g from rfl, ← w]; exact q1))]
        exact q2) (Hp.on_le _ _) (fun j hj => by rw [Hp.on_ne hj]; exact Hp.minus_in hgX)
      refine ⟨(k + 1, updJ X i ((h2.put g (.cells cs'.toArray 3 (0, 0))).on fun j => j = g)), rfl, rfl, ⟨f2, hk', ⟨l.set k ((i : Int) * 1000003 + k), ⟨by simp [hll], ?_⟩, ?_⟩, fun q hq hne => ?_⟩, by show (I i).2.1 - (k + 1) < (I i).2.1 - k; omega⟩
      · simp only [updJ, if_true]
        rw [List.map_set]
        exact e4.on fun q hq => by rw [e1] at hq; injection hq with hq; subst hq; rfl
      · rw [take_succ' (by simp; omega), take_succ' (by rw [marks_len]; exact hk'), hmk, List.take_set_of_le (Nat.le_refl k), hlt]
        simp
      · simp only [updJ, if_neg hne]; exact hoth q hq hne
    · have hkn : k = (I i).2.1 := by omega
      have hlm : l = marks i (I i).2.1 := by
        rw [hkn, List.take_of_length_le (by omega), List.take_of_length_le (by rw [marks_len]; omega)] at hlt
        exact hlt
      conv => whnf
      refine .mk g0 hg0 (by omega) (by omega) ?_
      conv => whnf
      refine .hp _ (by rw [Int.toNat_natCast]; exact hload _ f.le) ?_
      conv => whnf
      refine .mk gl rfl (by omega) (by omega) ?_
      conv => whnf
      refine .row 0 25 1 gl m m _ _ i rfl (by rw [Int.toNat_natCast, Nat.mul_one]) (over_one _ _ _ (by rw [longC_len]; exact hi')) ?_
      conv => whnf
      refine .ok (by omega) (by omega) ?_
      conv => whnf
      refine ⟨(i + 1, X, updJ J i (I i)), rfl, ?_, ⟨f, hi', fun q hq => ?_⟩, by show m - (i + 1) < m - i; omega⟩
      · show _ = [LE.row 25 1 (some gl) m m (longC m (updJ J i (I i)))]
        rw [← longC_set]; rfl
      · by_cases hqi : q = i
        · subst hqi
          exact ⟨l, ⟨hll, hro⟩, fun _ => ⟨hlm, by simp [updJ]⟩⟩
        · obtain ⟨l', a1, a2⟩ := hoth q hq hqi
          refine ⟨l', a1, fun hlt2 => ?_⟩
          obtain ⟨b1, b2⟩ := a2 (by omega)
          exact ⟨b1, by simp only [updJ, if_neg hqi]; exact b2⟩
  · have hst2 : ∀ q, q < m → RowAt (X q) 3 1 (I q).1 (I q).2.1 (I q).2.2 ((marks q (I q).2.1).map iv) ∧ J q = I q := fun q hq => by
      obtain ⟨l, ⟨_, a2⟩, a3⟩ := hst q hq
      obtain ⟨rfl, a4⟩ := a3 (by omega)
      exact ⟨a2, a4⟩
    conv => whnf
    refine .mk (Nat × (Nat → Hp) × (Nat → Sl)) [0, 3, 6] (fun (i, _, _) => [.v (.slice A0 m c0), .v (.slice (some gl) m m), .v (iv i)]) (fun (_, _, J) => [.row 25 1 (some gl) m m (longC m J)])
      (fun (i, X, J) h' => FamA B h' m X ∧ i ≤ m ∧ ∀ q, q < m → PairAt (X q) q (I q).2.1 (if q < i then 16 else 0) (I q).1 (J q).1 (J q).2.2 ∧ (J q).2.1 = (I q).2.1 + (if q < i then 16 else 0)) (fun (i, _, _) => m - i) (0, X, J) (fun (_, _, _) => rfl)
      ⟨f, Nat.zero_le _, fun q hq => by obtain ⟨a1, a2⟩ := hst2 q hq; rw [a2]; exact ⟨PairAt.zero a1, rfl⟩⟩ rfl rfl ?_
    rintro ⟨i, X, J⟩ e h1 ⟨f, hi, hst⟩
    conv => whnf
    refine br_dec (fun u1 => ?_) (fun u1 => ?_)
    · have hi' : i < m := by omega
      have hni := hn i hi'
      obtain ⟨p0, p1⟩ := hst i hi'
      rw [if_neg (Nat.lt_irrefl i)] at p0 p1
      conv => whnf
      refine .mkS [0] (Nat × (Nat → Hp) × (Nat → Sl)) [0, 3, 6, 7] (fun (k, _, _) => [.v (.slice A0 m c0), .v (.slice (some gl) m m), .v (iv i), .v (iv k)]) (fun (_, _, J) => [.row 25 1 (some gl) m m (longC m J)])
        (fun (k, X, J) h' => FamA B h' m X ∧ k ≤ 16 ∧ (PairAt (X i) i (I i).2.1 k (I i).1 (J i).1 (J i).2.2 ∧ (J i).2.1 = (I i).2.1 + k) ∧ ∀ q, q < m → q ≠ i → PairAt (X q) q (I q).2.1 (if q < i then 16 else 0) (I q).1 (J q).1 (J q).2.2 ∧ (J q).2.1 = (I q).2.1 + (if q < i then 16 else 0)) (fun (k, _, _) => 16 - k) (0, X, J) (fun (_, _, _) => rfl)
        ⟨f, Nat.zero_le _, ⟨p0, p1⟩, fun q hq _ => hst q hq⟩ rfl rfl rfl ?_
      rintro ⟨k, X, J⟩ e2 h2 ⟨f, hk, ⟨p, hJ⟩, hoth⟩
      refine .done ?_
      conv => whnf
      refine br_dec (fun u2 => ?_) (fun u2 => ?_)
      · have hk' : k < 16 := by omega
        have oth : ∀ (X' : Hp) (s : Sl), ∀ q, q < m → q ≠ i → PairAt (updJ X i X' q) q (I q).2.1 (if q < i then 16 else 0) (I q).1 (updJ J i s q).1 (updJ J i s q).2.2 ∧ (updJ J i s q).2.1 = (I q).2.1 + (if q < i then 16 else 0) := fun X' s q hq hne => by
          simp only [updJ, if_neg hne]; exact hoth q hq hne
        have hval : (marks i (I i).2.1 ++ tails i k).map iv ++ [iv ((0 - (i : Int)) * 1000003 - k - 1)] = (marks i (I i).2.1 ++ tails i (k + 1)).map iv := by
          rw [tails_add, ← List.append_assoc, List.map_append (l₂ := [(0 - (i : Int)) * 1000003 - k - 1])]; rfl
        conv => whnf
        refine .mk gl rfl (by omega) (by omega) ?_
        conv => whnf
        refine .row 0 25 1 gl m m _ i _ rfl (by rw [Int.toNat_natCast, Nat.mul_one]) (longC_at hi') ?_
        conv => whnf
        refine .ok (by omega) (by omega) ?_
        conv => whnf
        refine .ok (by omega) (by omega) ?_
        conv => whnf
        refine .ok (by omega) (by omega) ?_
        conv => whnf
        refine .ok (by omega) (by omega) ?_
        conv => whnf
        have hrow := p.row.mono (f.sub i hi')
        rw [hJ]
        cases hA : (J i).1 with
        | none =>
          rw [hA] at p hrow
          have hz : (I i).2.1 + k = 0 := by
            rcases hrow.2 with ⟨_, q, _⟩ | ⟨_, _, q, _⟩
            · exact q
            · cases q
          refine .abs 3 1 none ((I i).2.1 + k) (J i).2.2 _ hrow (.done (.old 2 _ [iv ((0 - (i : Int)) * 1000003 - k - 1)] rfl rfl (nums_one [(0 - (i : Int)) * 1000003 - k - 1]) (by simp [maxLen]; omega) (by omega) fun A2 c2 hA2 => ?_))
          obtain ⟨g2, rfl⟩ : ∃ g2, A2 = some g2 := by
            cases A2 with
            | none => have := (hA2.1.1 rfl).2; omega
            | some g2 => exact ⟨g2, rfl⟩
          conv => whnf
          refine .mk gl rfl (by omega) (by omega) ?_
          conv => whnf
          refine .row 0 25 1 gl m m _ _ i rfl (by rw [Int.toNat_natCast, Nat.mul_one]) (over_one _ _ _ (by rw [longC_len]; exact hi')) ?_
          conv => whnf
          refine .ok (by omega) (by omega) ?_
          conv => whnf
          refine .pub 2 3 1 (some g2) ((I i).2.1 + k + 1) c2 _ rfl fun h4 hl4 hr4 hf4 => .done ?_
          have hr4 : RowAt h4 3 1 (some g2) ((I i).2.1 + k + 1) c2 ((marks i (I i).2.1 ++ tails i k).map iv ++ [iv ((0 - (i : Int)) * 1000003 - k - 1)]) := hr4
          rw [hval] at hr4
          obtain ⟨f3, p3⟩ := p.moved f hi' (Hp.le_refl _) hrow hl4 hr4 (hf4 g2 rfl)
          refine ⟨(k + 1, updJ X i _, updJ J i (some g2, (I i).2.1 + k + 1, c2)), rfl, ?_, ⟨f3, hk', ⟨?_, ?_⟩, oth _ _⟩, by show 16 - (k + 1) < 16 - k; omega⟩
          · show _ = [LE.row 25 1 (some gl) m m (longC m (updJ J i (some g2, (I i).2.1 + k + 1, c2)))]
            rw [← longC_set]; rfl
          · simp only [updJ, if_true]; exact p3
          · simp only [updJ, if_true]; omega
        | some g1 =>
          rw [hA] at p hrow
          refine .abs 3 1 (some g1) ((I i).2.1 + k) (J i).2.2 _ hrow (.done (.keep 2 g1 _ [iv ((0 - (i : Int)) * 1000003 - k - 1)] rfl rfl rfl (nums_one [(0 - (i : Int)) * 1000003 - k - 1]) (by decide) (by simp [maxLen]; omega) (by omega) (fun _ => ?_) (fun _ g2 c2 _ => ?_)))
          · conv => whnf
            refine .mk gl rfl (by omega) (by omega) ?_
            conv => whnf
            refine .row 0 25 1 gl m m _ _ i rfl (by rw [Int.toNat_natCast, Nat.mul_one]) (over_one _ _ _ (by rw [longC_len]; exact hi')) ?_
            conv => whnf
            refine .ok (by omega) (by omega) ?_
            conv => whnf
            refine .pub 2 3 1 (some g1) ((I i).2.1 + k + 1) (J i).2.2 _ rfl fun h4 hl4 hr4 hf4 => .done ?_
            have hr4 : RowAt h4 3 1 (some g1) ((I i).2.1 + k + 1) (J i).2.2 ((marks i (I i).2.1 ++ tails i k).map iv ++ [iv ((0 - (i : Int)) * 1000003 - k - 1)]) := hr4
            rw [hval] at hr4
            obtain ⟨f3, p3⟩ := p.inplace f hi' hl4 hr4
            refine ⟨(k + 1, updJ X i _, updJ J i (some g1, (I i).2.1 + k + 1, (J i).2.2)), rfl, ?_, ⟨f3, hk', ⟨?_, ?_⟩, oth _ _⟩, by show 16 - (k + 1) < 16 - k; omega⟩
            · show _ = [LE.row 25 1 (some gl) m m (longC m (updJ J i (some g1, (I i).2.1 + k + 1, (J i).2.2)))]
              rw [← longC_set]; rfl
            · simp only [updJ, if_true]; exact p3
            · simp only [updJ, if_true]; omega
          · conv => whnf
            refine .mk gl rfl (by omega) (by omega) ?_
            conv => whnf
            refine .row 0 25 1 gl m m _ _ i rfl (by rw [Int.toNat_natCast, Nat.mul_one]) (over_one _ _ _ (by rw [longC_len]; exact hi')) ?_
            conv => whnf
            refine .ok (by omega) (by omega) ?_
            conv => whnf
            refine .pub 2 3 1 (some g1) ((I i).2.1 + k) (J i).2.2 _ rfl fun h4 hl4 hr4 hf4 => .pub 3 3 1 (some g2) ((I i).2.1 + k + 1) c2 _ rfl fun h5 hl5 hr5 hf5 => .done ?_
            have hr5 : RowAt h5 3 1 (some g2) ((I i).2.1 + k + 1) c2 ((marks i (I i).2.1 ++ tails i k).map iv ++ [iv ((0 - (i : Int)) * 1000003 - k - 1)]) := hr5
            rw [hval] at hr5
            obtain ⟨f3, p3⟩ := p.moved f hi' hl4 hr4 hl5 hr5 (hf5 g2 rfl)
            refine ⟨(k + 1, updJ X i _, updJ J i (some g2, (I i).2.1 + k + 1, c2)), rfl, ?_, ⟨f3, hk', ⟨?_, ?_⟩, oth _ _⟩, by show 16 - (k + 1) < 16 - k; omega⟩
            · show _ = [LE.row 25 1 (some gl) m m (longC m (updJ J i (some g2, (I i).2.1 + k + 1, c2)))]
              rw [← longC_set]; rfl
            · simp only [updJ, if_true]; exact p3
            · simp only [updJ, if_true]; omega
      · obtain rfl : k = 16 := by omega
        conv => whnf
        refine .ok (by omega) (by omega) ?_
        conv => whnf
        refine ⟨(i + 1, X, J), rfl, rfl, ⟨f, hi', fun q hq => ?_⟩, by show m - (i + 1) < m - i; omega⟩
        by_cases hqi : q = i
        · subst hqi; rw [if_pos (Nat.lt_succ_self q)]; exact ⟨p, hJ⟩
        · obtain ⟨a1, a2⟩ := hoth q hq hqi
          by_cases hlt : q < i
          · rw [if_pos hlt] at a1 a2; rw [if_pos (by omega)]; exact ⟨a1, a2⟩
          · rw [if_neg hlt] at a1 a2; rw [if_neg (by omega)]; exact ⟨a1, a2⟩
    · have hst3 : ∀ q, q < m → PairAt (X q) q (I q).2.1 16 (I q).1 (J q).1 (J q).2.2 ∧ (J q).2.1 = (I q).2.1 + 16 := fun q hq => by
        have := hst q hq
        rwa [if_pos (show q < i by omega)] at this
      conv => whnf
      refine .mk Nat [0, 3, 8] (fun i => [.v (.slice A0 m c0), .v (.slice (some gl) m m), .v (iv i)]) (fun _ => [.row 25 1 (some gl) m m (longC m J)]) (fun i h' => h' = h1 ∧ i ≤ m) (fun i => m - i) 0 (fun _ => rfl) ⟨rfl, Nat.zero_le _⟩ rfl rfl ?_
      rintro i e h1 ⟨rfl, hi⟩
      conv => whnf
      refine br_dec (fun u1 => ?_) (fun u1 => ?_)
      · have hi' : i < m := by omega
        have hni := hn i hi'
        obtain ⟨p, hJ⟩ := hst3 i hi'
        obtain ⟨g0, hg0⟩ := ht.ad (by omega)
        have hload : h1.cell? (g0.add (i * 1)) = some (.slice (I i).1 (I i).2.1 (I i).2.2) := (ht.mono f.le).one hg0 (map_range hi') rfl
        have hA := p.tab.mono (f.sub i hi')
        have hB := (p.row.mono (f.sub i hi')).one
        have hmk : ∀ k, k < (I i).2.1 → ((marks i (I i).2.1).map fun z => [iv z])[k]? = some [iv ((i : Int) * 1000003 + k)] := fun k hk => by simp [marks, hk]
        have hbk : ∀ k, k < (I i).2.1 → ((marks i (I i).2.1 ++ tails i 16).map fun z => [iv z])[k]? = some [iv ((i : Int) * 1000003 + k)] := fun k hk => by
          rw [List.getElem?_map, List.getElem?_append_left (by rw [marks_len]; exact hk), ← List.getElem?_map]; exact hmk k hk
        have htk : ∀ k, k < 16 → ((marks i (I i).2.1 ++ tails i 16).map fun z => [iv z])[(I i).2.1 + k]? = some [iv ((0 - (i : Int)) * 1000003 - k - 1)] := fun k hk => by
          rw [List.getElem?_map, List.getElem?_append_right (by rw [marks_len]; omega), marks_len, Nat.add_sub_cancel_left, ← List.getElem?_map]; simp [tails, hk]
        obtain ⟨gB, hgB⟩ := hB.ad (by omega)
        conv => whnf
        refine .mk Nat [0, 3, 8, 9] (fun k => [.v (.slice A0 m c0), .v (.slice (some gl) m m), .v (iv i), .v (iv k)]) (fun _ => [.row 25 1 (some gl) m m (longC m J)]) (fun k h' => h' = h1 ∧ k ≤ (I i).2.1) (fun k => (I i).2.1 - k) 0 (fun _ => rfl) ⟨rfl, Nat.zero_le _⟩ rfl rfl ?_
        rintro k e2 h1 ⟨rfl, hk⟩
        conv => whnf
        refine .mk g0 hg0 (by omega) (by omega) ?_
        conv => whnf
        refine .hp _ (by rw [Int.toNat_natCast]; exact hload) ?_
        conv => whnf
        refine br_dec (fun u2 => ?_) (fun u2 => ?_)
        · have hk' : k < (I i).2.1 := by omega
          obtain ⟨gA, hgA⟩ := hA.ad (by omega)
          conv => whnf
          refine .mk g0 hg0 (by omega) (by omega) ?_
          conv => whnf
          refine .hp _ (by rw [Int.toNat_natCast]; exact hload) ?_
          conv => whnf
          refine .mk gA hgA (by omega) (by omega) ?_
          conv => whnf
          refine .hp (iv ((i : Int) * 1000003 + k)) (by rw [Int.toNat_natCast]; exact hA.one hgA (hmk k hk') rfl) ?_
          conv => whnf
          refine .ok (by omega) (by omega) ?_
          conv => whnf
          refine .ok (by omega) (by omega) ?_
          conv => whnf
          refine br_dec (fun q => (q rfl).elim) (fun _ => ?_)
          conv => whnf
          refine .mk gl rfl (by omega) (by omega) ?_
          conv => whnf
          refine .row 0 25 1 gl m m _ i _ rfl (by rw [Int.toNat_natCast, Nat.mul_one]) (longC_at hi') ?_
          conv => whnf
          refine .mk gB hgB (by omega) (by omega) ?_
          conv => whnf
          refine .hp (iv ((i : Int) * 1000003 + k)) (by rw [Int.toNat_natCast]; exact hB.one hgB (hbk k hk') rfl) ?_
          conv => whnf
          refine .ok (by omega) (by omega) ?_
          conv => whnf
          refine .ok (by omega) (by omega) ?_
          conv => whnf
          refine br_dec (fun q => (q rfl).elim) (fun _ => ?_)
          conv => whnf
          refine .ok (by omega) (by omega) ?_
          conv => whnf
          exact ⟨k + 1, rfl, rfl, ⟨rfl, hk'⟩, by omega⟩
        · conv => whnf
          refine .mk Nat [0, 3, 8, 10] (fun k => [.v (.slice A0 m c0), .v (.slice (some gl) m m), .v (iv i), .v (iv k)]) (fun _ => [.row 25 1 (some gl) m m (longC m J)]) (fun k h' => h' = h1 ∧ k ≤ 16) (fun k => 16 - k) 0 (fun _ => rfl) ⟨rfl, Nat.zero_le _⟩ rfl rfl ?_
          rintro k e3 h1 ⟨rfl, hk⟩
          conv => whnf
          refine br_dec (fun u3 => ?_) (fun u3 => ?_)
          · have hk' : k < 16 := by omega
            conv => whnf
            refine .mk gl rfl (by omega) (by omega) ?_
            conv => whnf
            refine .row 0 25 1 gl m m _ i _ rfl (by rw [Int.toNat_natCast, Nat.mul_one]) (longC_at hi') ?_
            conv => whnf
            refine .mk g0 hg0 (by omega) (by omega) ?_
            conv => whnf
            refine .hp _ (by rw [Int.toNat_natCast]; exact hload) ?_
            conv => whnf
            refine .ok (by omega) (by omega) ?_
            conv => whnf
            refine .mk gB hgB (by omega) (by omega) ?_
            conv => whnf
            refine .hp (iv ((0 - (i : Int)) * 1000003 - k - 1)) (by rw [show (((I i).2.1 : Int) + k).toNat = (I i).2.1 + k by omega]; exact hB.one hgB (htk k hk') rfl) ?_
            conv => whnf
            refine .ok (by omega) (by omega) ?_
            conv => whnf
            refine .ok (by omega) (by omega) ?_
            conv => whnf
            refine .ok (by omega) (by omega) ?_
            conv => whnf
            refine .ok (by omega) (by omega) ?_
            conv => whnf
            refine br_dec (fun q => (q rfl).elim) (fun _ => ?_)
            conv => whnf
            refine .ok (by omega) (by omega) ?_
            conv => whnf
            exact ⟨k + 1, rfl, rfl, ⟨rfl, hk'⟩, by omega⟩
          · conv => whnf
            refine .ok (by omega) (by omega) ?_
            conv => whnf
            exact ⟨i + 1, rfl, rfl, ⟨rfl, hi'⟩, by omega⟩
      · conv => whnf
        exact .done ⟨rfl, f.le⟩
end Go.Sx
