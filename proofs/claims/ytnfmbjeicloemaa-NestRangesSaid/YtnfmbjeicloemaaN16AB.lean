/- Nests that share no memory. Conditions: none. -/
import Derived.Test.YtnfmbjeicloemaaN16AA
namespace Go.Sx
open Go.Proofs
theorem over_tail {α : Type} (P old r : List α) (h : r.length = old.length) {off : Nat} (ho : off = P.length) : over (P ++ old) off r = some (P ++ r) := by
  have := over_mid old r [] h P
  simp only [List.append_nil] at this
  rw [ho]; exact this
theorem mk3_at {i n k : Nat} (hk : k < n) : (mk3 i n)[k]? = some (lcells (i : Int) (k : Int) none 0 0) := by simp [mk3, hk]
theorem mt3_at {i n j k : Nat} (hk : k < n) : (mk3 i n ++ tl3 i j)[k]? = some (lcells (i : Int) (k : Int) none 0 0) := by
  rw [List.getElem?_append_left (by rw [mk3_len]; exact hk)]; exact mk3_at hk
theorem mt3_tl {i n j k : Nat} (hk : k < j) : (mk3 i n ++ tl3 i j)[n + k]? = some (lcells (0 - (i : Int) - 1) (k : Int) none 0 0) := by
  rw [List.getElem?_append_right (by rw [mk3_len]; omega), mk3_len, Nat.add_sub_cancel_left]; simp [tl3, hk]
theorem Hp.or_of {a b : Hp} {j : Nat} (h : a.or b j ≠ none) : a j ≠ none ∨ b j ≠ none := by
  unfold Hp.or at h
  cases e : a j with
  | none => rw [e] at h; exact .inr h
  | some o => exact .inl (by simp)
set_option maxRecDepth 100000 in
theorem apart27 {B Y h : Hp} {A A2 : Option Addr} {ma mb ca cb : Nat} {l l2 : Lo} (hc1 : l.cnt ≤ 200000) (hc2 : l2.cnt ≤ 200000) (hs1 : SAt h A ma l) (hs2 : SAt h A2 mb l2) (hY : Sep Y (colL A ma ca l ++ colL A2 mb cb l2)) (hle : ∀ s ∈ colL A ma ca l ++ colL A2 mb cb l2, s.2.1 ≤ 200000) (yl : Y.le h) (bl : B.le h) (hd : ∀ j, Y j ≠ none → B j = none) :
    Fn Try.prog 27 #[.slice A ma ca, .slice A2 mb cb] h fun v h' => v = .bool true ∧ B.le h' := by
  refine Fn.intro (args := [.slice A ma ca, .slice A2 mb cb]) mix16 Try.func27 rfl (by decide) Try.ntmps27 rfl (low27 rfl) rfl ?_
  conv => whnf
  refine .done (.mk _ (lists49 _ l (Nat.lt_succ_self _) hc1 A ma ca h h none 0 0 [] hs1 (RowS.nil h) (by simp; omega)) ?_)
  rintro _ h1 ⟨D1, n1, c1, rfl, q1⟩
  have hl1 := bods_cnt l
  have hl2 := bods_cnt l2
  conv => whnf
  refine .done (.mk _ (lists49 _ l2 (Nat.lt_succ_self _) hc2 A2 mb cb h h1 D1 n1 c1 _ hs2 q1 (by simp only [colL, List.nil_append, List.length_append, List.length_singleton]; omega)) ?_)
  rintro _ h2 ⟨A0, m, c0, rfl, q2⟩
  obtain ⟨xs, hxs⟩ : ∃ xs, xs = colL A ma ca l ++ colL A2 mb cb l2 := ⟨_, rfl⟩
  rw [List.nil_append, ← hxs] at q2
  rw [← hxs] at hY hle
  have hmx : m = xs.length := q2.n
  have hm : m ≤ 1000000 := by
    rw [hmx, hxs]; simp only [colL, List.length_append, List.length_singleton]; omega
  obtain ⟨X, hX1, hX2⟩ := hY.fam
  obtain ⟨I, hI⟩ : ∃ I : Nat → Sl, ∀ i (hi : i < xs.length), I i = xs[i] := ⟨fun i => xs.getD i (none, 0, 0), fun i hi => by simp [hi]⟩
  have hrows : xs.map slv = ((List.range m).map fun i => Value.slice (I i).1 (I i).2.1 (I i).2.2) := by
    apply List.ext_getElem
    · simp [hmx]
    · intro v h1 h2
      simp only [List.length_map] at h1
      simp only [List.getElem_map, List.getElem_range, hI v h1]
      rfl
  have hrawI : ∀ i, i < m → ∃ l, Raw3 (X i) (I i) l := fun i hi => by rw [hI i (by omega)]; exact (hX1 i (by omega)).2
  have hn : ∀ i, i < m → (I i).2.1 ≤ 200000 := fun i hi => by rw [hI i (by omega)]; exact hle _ (List.getElem_mem _)
  have hbF : B.le h2 := Hp.le_trans bl q2.le
  have f : FamA (B.or (h2.blk A0)) h2 m X := by
    refine ⟨Hp.or_le hbF (Hp.blk_le _ _), fun i hi => Hp.le_trans (hX1 i (by omega)).1 (Hp.le_trans yl q2.le), fun i hi j hj => ?_, fun i k hi hk => hX2 i k (by omega) (by omega)⟩
    have hyj : Y j ≠ none := fun q => hj (le_none (hX1 i (by omega)).1 q)
    refine Hp.or_none (hd j hyj) ?_
    cases q : h2.blk A0 j with
    | none => rfl
    | some o =>
      obtain ⟨g, e1, rfl⟩ := Hp.blk_in (by rw [q]; simp)
      exact absurd (le_none yl (q2.fr g e1)) hyj
  have ht : Tab (B.or (h2.blk A0)) 1 A0 m ((List.range m).map fun i => [Value.slice (I i).1 (I i).2.1 (I i).2.2]) := by
    have hr := q2.row.blk
    rw [hrows] at hr
    have hfl : ((List.range m).map fun i => [Value.slice (I i).1 (I i).2.1 (I i).2.2]).flatten = (List.range m).map fun i => Value.slice (I i).1 (I i).2.1 (I i).2.2 := by
      induction (List.range m) with
      | nil => rfl
      | cons x r ih => simp_all
    rw [← hfl] at hr
    refine (hr.tab (fun r hr => by obtain ⟨i, _, rfl⟩ := List.mem_map.1 hr; rfl) (by decide)).mono (Hp.le_or2 fun j hj => ?_)
    obtain ⟨g, e1, rfl⟩ := Hp.blk_in hj
    exact le_none bl (q2.fr g e1)
  have hBB : B.le (B.or (h2.blk A0)) := Hp.le_or _ _
  obtain ⟨B2, hB2⟩ : ∃ B2, B2 = B.or (h2.blk A0) := ⟨_, rfl⟩
  rw [← hB2] at f ht hBB
  clear hB2 hrows hX1 hX2 hbF hI hY hle hmx q2 q1 hl1 hl2 hs1 hs2 yl bl hd hc1 hc2 hxs
  conv => whnf
  refine .mk (Nat × (Nat → Hp)) [5, 6] (fun (i, _) => [.v (.slice A0 m c0), .v (iv i)]) (fun _ => [])
    (fun (i, X) h' => FamA B2 h' m X ∧ i ≤ m ∧ ∀ q, q < m → ∃ l, Raw3 (X q) (I q) l ∧ (q < i → l = mk3 q (I q).2.1)) (fun (i, _) => m - i) (0, X) (fun (_, _) => rfl)
    ⟨f, Nat.zero_le _, fun q hq => by obtain ⟨l, hl⟩ := hrawI q hq; exact ⟨l, hl, fun h => absurd h (Nat.not_lt_zero q)⟩⟩ rfl rfl ?_
  clear f hrawI h1 h2 X
  rintro ⟨i, X⟩ e h1 ⟨f, hi, hst⟩
  conv => whnf
  refine br_dec (fun u1 => ?_) (fun u1 => ?_)
  · have hi' : i < m := by omega
    have hni := hn i hi'
    obtain ⟨g0, hg0⟩ := ht.ad (by omega)
    have hload : ∀ hh : Hp, B2.le hh → hh.cell? (g0.add (i * 1)) = some (.slice (I i).1 (I i).2.1 (I i).2.2) := fun hh hl => (ht.mono hl).one hg0 (map_range hi') rfl
    obtain ⟨l0, hl0, _⟩ := hst i hi'
    conv => whnf
    refine .mk (Nat × (Nat → Hp)) [5, 6, 7] (fun (k, _) => [.v (.slice A0 m c0), .v (iv i), .v (iv k)]) (fun _ => [])
      (fun (k, X) h' => FamA B2 h' m X ∧ k ≤ (I i).2.1 ∧ (∃ l, Raw3 (X i) (I i) l ∧ l.take k = (mk3 i (I i).2.1).take k) ∧ ∀ q, q < m → q ≠ i → ∃ l, Raw3 (X q) (I q) l ∧ (q < i → l = mk3 q (I q).2.1)) (fun (k, _) => (I i).2.1 - k) (0, X) (fun (_, _) => rfl)
      ⟨f, Nat.zero_le _, ⟨l0, hl0, by simp⟩, fun q hq _ => hst q hq⟩ rfl rfl ?_
    rintro ⟨k, X⟩ e2 h2 ⟨f, hk, ⟨l, ⟨hll, hlw, hro⟩, hlt⟩, hoth⟩
    conv => whnf
    refine .mk g0 hg0 (by omega) (by omega) ?_
    conv => whnf
    refine .hp _ (by rw [Int.toNat_natCast]; exact hload _ f.le) ?_
    conv => whnf
    refine br_dec (fun u2 => ?_) (fun u2 => ?_)
    · have hk' : k < (I i).2.1 := by omega
      obtain ⟨g, cs, cs', e1, e2, e3, e4⟩ := (hro.mono (f.sub i hi')).write3 hlw hk' (r := lcells (i : Int) (k : Int) none 0 0) rfl
      have hgX := hro.mem e1
      conv => whnf
      refine .mk g0 hg0 (by omega) (by omega) ?_
      conv => whnf
      refine .hp _ (by rw [Int.toNat_natCast]; exact hload _ f.le) ?_
      conv => whnf
      refine .mk ⟨g, 0, none⟩ e1 (by omega) (by omega) ?_
      conv => whnf
      refine .hp g (k * 3) 58 cs cs' (by rw [Int.toNat_natCast, add_lit, Nat.zero_add]) e2 e3 ?_
      conv => whnf
      refine .ok (by omega) (by omega) ?_
      conv => whnf
      have hmk : (mk3 i (I i).2.1)[k]'(by rw [mk3_len]; exact hk') = lcells (i : Int) (k : Int) none 0 0 := by simp [mk3]
      have f2 := f.upd (h' := h2.put g (.cells cs'.toArray 58 (0, 0))) (X' := (h2.put g (.cells cs'.toArray 58 (0, 0))).on fun j => j = g) hi' (fun j o q => by
        obtain ⟨q1, q2⟩ := Hp.minus_some q
        rw [Hp.put_ne _ _ (fun w => hgX (by rw [show (⟨g, 0, none⟩ : Addr).block = g from rfl, ← w]; exact q1))]
        exact q2) (Hp.on_le _ _) (fun j hj => by rw [Hp.on_ne hj]; exact Hp.minus_in hgX)
      refine ⟨(k + 1, updJ X i ((h2.put g (.cells cs'.toArray 58 (0, 0))).on fun j => j = g)), rfl, rfl, ⟨f2, hk', ⟨l.set k (lcells (i : Int) (k : Int) none 0 0), ⟨by simp [hll], fun r hr => ?_, ?_⟩, ?_⟩, fun q hq hne => ?_⟩, by show (I i).2.1 - (k + 1) < (I i).2.1 - k; omega⟩
      · rcases List.mem_or_eq_of_mem_set hr with hr | rfl
        · exact hlw r hr
        · rfl
      · simp only [updJ, if_true]
        exact e4.on fun q hq => by rw [e1] at hq; injection hq with hq; subst hq; rfl
      · rw [take_succ' (by simp; omega), take_succ' (by rw [mk3_len]; exact hk'), hmk, List.take_set_of_le (Nat.le_refl k), hlt]
        simp
      · simp only [updJ, if_neg hne]; exact hoth q hq hne
    · have hkn : k = (I i).2.1 := by omega
      have hlm : l = mk3 i (I i).2.1 := by
        rw [hkn, List.take_of_length_le (by omega), List.take_of_length_le (by rw [mk3_len]; omega)] at hlt
        exact hlt
      conv => whnf
      refine .ok (by omega) (by omega) ?_
      conv => whnf
      refine ⟨(i + 1, X), rfl, rfl, ⟨f, hi', fun q hq => ?_⟩, by show m - (i + 1) < m - i; omega⟩
      by_cases hqi : q = i
      · subst hqi
        exact ⟨l, ⟨hll, hlw, hro⟩, fun _ => hlm⟩
      · obtain ⟨l', a1, a2⟩ := hoth q hq hqi
        exact ⟨l', a1, fun hlt2 => a2 (by omega)⟩
  · have hst2 : ∀ q, q < m → RowAt (X q) 58 3 (I q).1 (I q).2.1 (I q).2.2 (mk3 q (I q).2.1).flatten := fun q hq => by
      obtain ⟨l, ⟨_, _, a2⟩, a3⟩ := hst q hq
      have := a3 (by omega)
      subst this
      exact a2
    clear hst
    conv => whnf
    refine EvMake.one m (.slice none 0 0) rfl rfl rfl rfl (by omega) (by omega) fun gl => ?_
    rw [show List.replicate m (Value.slice none 0 0) = longC m fun _ => (none, 0, 0) by simp [longC, List.map_const']]
    conv => whnf
    refine .mk (Nat × (Nat → Hp) × (Nat → Sl)) [5, 8, 9] (fun (i, _, _) => [.v (.slice A0 m c0), .v (.slice (some gl) m m), .v (iv i)]) (fun (_, _, J) => [.row 22 1 (some gl) m m (longC m J)])
      (fun (i, X, J) h' => FamA B2 h' m X ∧ i ≤ m ∧ ∀ q, q < m → (if q < i then Pair3 (X q) q (I q).2.1 8 (I q).1 (J q).1 (J q).2.2 ∧ (J q).2.1 = (I q).2.1 + 8 else RowAt (X q) 58 3 (I q).1 (I q).2.1 (I q).2.2 (mk3 q (I q).2.1).flatten)) (fun (i, _, _) => m - i) (0, X, fun _ => (none, 0, 0)) (fun (_, _, _) => rfl)
      ⟨f, Nat.zero_le _, fun q hq => by rw [if_neg (Nat.not_lt_zero q)]; exact hst2 q hq⟩ rfl rfl ?_
    clear f hst2 h1 X hi u1 i e
    rintro ⟨i, X, J⟩ e h1 ⟨f, hi, hst⟩
    conv => whnf
    refine br_dec (fun u1 => ?_) (fun u1 => ?_)
    · have hi' : i < m := by omega
      have hni := hn i hi'
      obtain ⟨g0, hg0⟩ := ht.ad (by omega)
      have hload : ∀ hh : Hp, B2.le hh → hh.cell? (g0.add (i * 1)) = some (.slice (I i).1 (I i).2.1 (I i).2.2) := fun hh hl => (ht.mono hl).one hg0 (map_range hi') rfl
      have p0 := hst i hi'
      rw [if_neg (Nat.lt_irrefl i)] at p0
      conv => whnf
      refine .mk g0 hg0 (by omega) (by omega) ?_
      conv => whnf
      refine .hp _ (by rw [Int.toNat_natCast]; exact hload _ f.le) ?_
      conv => whnf
      refine .mk gl rfl (by omega) (by omega) ?_
      conv => whnf
      refine .row 0 22 1 gl m m _ _ i rfl (by rw [Int.toNat_natCast, Nat.mul_one]) (over_one _ _ _ (by rw [longC_len]; exact hi')) ?_
      rw [longC_set (I i)]
      conv => whnf
      refine .mkS [0] (Nat × (Nat → Hp) × (Nat → Sl)) [5, 8, 9, 10] (fun (k, _, _) => [.v (.slice A0 m c0), .v (.slice (some gl) m m), .v (iv i), .v (iv k)]) (fun (_, _, J) => [.row 22 1 (some gl) m m (longC m J)])
        (fun (k, X, J) h' => FamA B2 h' m X ∧ k ≤ 8 ∧ (Pair3 (X i) i (I i).2.1 k (I i).1 (J i).1 (J i).2.2 ∧ (J i).2.1 = (I i).2.1 + k) ∧ ∀ q, q < m → q ≠ i → (if q < i then Pair3 (X q) q (I q).2.1 8 (I q).1 (J q).1 (J q).2.2 ∧ (J q).2.1 = (I q).2.1 + 8 else RowAt (X q) 58 3 (I q).1 (I q).2.1 (I q).2.2 (mk3 q (I q).2.1).flatten)) (fun (k, _, _) => 8 - k) (0, X, updJ J i (I i)) (fun (_, _, _) => rfl)
        ⟨f, Nat.zero_le _, ⟨by simp only [updJ, if_true]; exact Pair3.zero p0, by simp [updJ]⟩, fun q hq hne => by simp only [updJ, if_neg hne]; exact hst q hq⟩ rfl rfl rfl ?_
      rintro ⟨k, X, J⟩ e2 h2 ⟨f, hk, ⟨p, hJ⟩, hoth⟩
      by_cases hk' : k < 8
      · have oth : ∀ (X' : Hp) (s : Sl), ∀ q, q < m → q ≠ i → (if q < i then Pair3 (updJ X i X' q) q (I q).2.1 8 (I q).1 (updJ J i s q).1 (updJ J i s q).2.2 ∧ (updJ J i s q).2.1 = (I q).2.1 + 8 else RowAt (updJ X i X' q) 58 3 (I q).1 (I q).2.1 (I q).2.2 (mk3 q (I q).2.1).flatten) := fun X' s q hq hne => by
          simp only [updJ, if_neg hne]; exact hoth q hq hne
        have hval : (mk3 i (I i).2.1 ++ tl3 i k).flatten ++ lcells (0 - (i : Int) - 1) (k : Int) none 0 0 = (mk3 i (I i).2.1 ++ tl3 i (k + 1)).flatten := by
          rw [tl3_add, ← List.append_assoc, List.flatten_append (L₁ := mk3 i (I i).2.1 ++ tl3 i k), List.flatten_singleton]
        have hfl : (mk3 i (I i).2.1 ++ tl3 i k).flatten.length = ((I i).2.1 + k) * 3 := by
          rw [flat_wid _ (mt3_wid i _ k), List.length_append, mk3_len, tl3_len]
        have hrow := p.row.mono (f.sub i hi')
        cases hA : (J i).1 with
        | none =>
          rw [hA] at p hrow
          have hz : (I i).2.1 + k = 0 := by
            rcases hrow.2 with ⟨_, q, _⟩ | ⟨_, _, q, _⟩
            · exact q
            · cases q
          refine .abs 58 3 none ((I i).2.1 + k) (J i).2.2 _ hrow (.done ?_)
          conv => whnf
          refine br_dec (fun u2 => ?_) (fun u2 => ?_)
          · conv => whnf
            refine .mk gl rfl (by omega) (by omega) ?_
            conv => whnf
            refine .row 0 22 1 gl m m _ i _ rfl (by rw [Int.toNat_natCast, Nat.mul_one]) (longC_at hi') ?_
            rw [hA, hJ]
            conv => whnf
            refine .ok (by omega) (by omega) ?_
            conv => whnf
            refine .ok (by omega) (by omega) ?_
            conv => whnf
            refine .old 1 _ (lcells 0 0 none 0 0) rfl rfl (lcells_one _ _ _ _ _) (by simp [maxLen]; omega) (by omega) fun A2 c2 hA2 => ?_
            obtain ⟨g2, rfl⟩ : ∃ g2, A2 = some g2 := by
              cases A2 with
              | none => have := (hA2.1.1 rfl).2; omega
              | some g2 => exact ⟨g2, rfl⟩
            conv => whnf
            refine .mk g2 rfl (by omega) (by omega) ?_
            conv => whnf
            refine .mk gl rfl (by omega) (by omega) ?_
            conv => whnf
            refine ⟨?_, ?_⟩
            · skip
              conv => whnf
              refine .row 1 58 3 g2 ((I i).2.1 + k + 1) c2 _ ((mk3 i (I i).2.1 ++ tl3 i k).flatten ++ lcells (0 - (i : Int) - 1) (k : Int) none 0 0) (((I i).2.1 + k) * 3) rfl (by rw [Int.toNat_natCast]) (over_tail _ (lcells 0 0 none 0 0) (lcells (0 - (i : Int) - 1) (k : Int) none 0 0) rfl hfl.symm) ?_
              conv => whnf
              refine .row 0 22 1 gl m m _ _ i rfl (by rw [Int.toNat_natCast, Nat.mul_one]) (over_one _ _ _ (by rw [longC_len]; exact hi')) ?_
              conv => whnf
              refine .ok (by omega) (by omega) ?_
              conv => whnf
              refine .pub 1 58 3 (some g2) ((I i).2.1 + k + 1) c2 _ rfl fun h4 hl4 hr4 hf4 => .done ?_
              have hr4 : RowAt h4 58 3 (some g2) ((I i).2.1 + k + 1) c2 ((mk3 i (I i).2.1 ++ tl3 i k).flatten ++ lcells (0 - (i : Int) - 1) (k : Int) none 0 0) := hr4
              rw [hval] at hr4
              obtain ⟨f3, p3⟩ := p.moved f hi' (Hp.le_refl _) hrow hl4 hr4 (hf4 g2 rfl)
              refine ⟨(k + 1, updJ X i _, updJ J i (some g2, (I i).2.1 + k + 1, c2)), rfl, ?_, ⟨f3, hk', ⟨?_, ?_⟩, oth _ _⟩, by show 8 - (k + 1) < 8 - k; omega⟩
              · show _ = [LE.row 22 1 (some gl) m m (longC m (updJ J i (some g2, (I i).2.1 + k + 1, c2)))]
                rw [← longC_set]; rfl
              · simp only [updJ, if_true]; exact p3
              · simp only [updJ, if_true]; omega
            · skip
              conv => whnf
              refine .row 0 22 1 gl m m _ _ i rfl (by rw [Int.toNat_natCast, Nat.mul_one]) (over_one _ _ _ (by rw [longC_len]; exact hi')) ?_
              conv => whnf
              refine .row 1 58 3 g2 ((I i).2.1 + k + 1) c2 _ ((mk3 i (I i).2.1 ++ tl3 i k).flatten ++ lcells (0 - (i : Int) - 1) (k : Int) none 0 0) (((I i).2.1 + k) * 3) rfl (by rw [Int.toNat_natCast]) (over_tail _ (lcells 0 0 none 0 0) (lcells (0 - (i : Int) - 1) (k : Int) none 0 0) rfl hfl.symm) ?_
              conv => whnf
              refine .ok (by omega) (by omega) ?_
              conv => whnf
              refine .pub 1 58 3 (some g2) ((I i).2.1 + k + 1) c2 _ rfl fun h4 hl4 hr4 hf4 => .done ?_
              have hr4 : RowAt h4 58 3 (some g2) ((I i).2.1 + k + 1) c2 ((mk3 i (I i).2.1 ++ tl3 i k).flatten ++ lcells (0 - (i : Int) - 1) (k : Int) none 0 0) := hr4
              rw [hval] at hr4
              obtain ⟨f3, p3⟩ := p.moved f hi' (Hp.le_refl _) hrow hl4 hr4 (hf4 g2 rfl)
              refine ⟨(k + 1, updJ X i _, updJ J i (some g2, (I i).2.1 + k + 1, c2)), rfl, ?_, ⟨f3, hk', ⟨?_, ?_⟩, oth _ _⟩, by show 8 - (k + 1) < 8 - k; omega⟩
              · show _ = [LE.row 22 1 (some gl) m m (longC m (updJ J i (some g2, (I i).2.1 + k + 1, c2)))]
                rw [← longC_set]; rfl
              · simp only [updJ, if_true]; exact p3
              · simp only [updJ, if_true]; omega
          · omega
        | some g1 =>
          rw [hA] at p hrow
          refine .abs 58 3 (some g1) ((I i).2.1 + k) (J i).2.2 _ hrow (.done ?_)
          conv => whnf
          refine br_dec (fun u2 => ?_) (fun u2 => ?_)
          · conv => whnf
            refine .mk gl rfl (by omega) (by omega) ?_
            conv => whnf
            refine .row 0 22 1 gl m m _ i _ rfl (by rw [Int.toNat_natCast, Nat.mul_one]) (longC_at hi') ?_
            rw [hA, hJ]
            conv => whnf
            refine .ok (by omega) (by omega) ?_
            conv => whnf
            refine .ok (by omega) (by omega) ?_
            conv => whnf
            refine .keep 1 g1 _ (lcells 0 0 none 0 0) rfl rfl rfl (lcells_one _ _ _ _ _) (by decide) (by simp [maxLen]; omega) (by omega) (fun _ => ?_) (fun _ g2 c2 _ => ?_)
            · skip
              conv => whnf
              refine .mk g1 rfl (by omega) (by omega) ?_
              conv => whnf
              refine .mk gl rfl (by omega) (by omega) ?_
              conv => whnf
              refine ⟨?_, ?_⟩
              · skip
                conv => whnf
                refine .row 1 58 3 g1 ((I i).2.1 + k + 1) (J i).2.2 _ ((mk3 i (I i).2.1 ++ tl3 i k).flatten ++ lcells (0 - (i : Int) - 1) (k : Int) none 0 0) (((I i).2.1 + k) * 3) rfl (by rw [Int.toNat_natCast]) (over_tail _ (lcells 0 0 none 0 0) (lcells (0 - (i : Int) - 1) (k : Int) none 0 0) rfl hfl.symm) ?_
                conv => whnf
                refine .row 0 22 1 gl m m _ _ i rfl (by rw [Int.toNat_natCast, Nat.mul_one]) (over_one _ _ _ (by rw [longC_len]; exact hi')) ?_
                conv => whnf
                refine .ok (by omega) (by omega) ?_
                conv => whnf
                refine .pub 1 58 3 (some g1) ((I i).2.1 + k + 1) (J i).2.2 _ rfl fun h4 hl4 hr4 hf4 => .done ?_
                have hr4 : RowAt h4 58 3 (some g1) ((I i).2.1 + k + 1) (J i).2.2 ((mk3 i (I i).2.1 ++ tl3 i k).flatten ++ lcells (0 - (i : Int) - 1) (k : Int) none 0 0) := hr4
                rw [hval] at hr4
                obtain ⟨f3, p3⟩ := p.inplace f hi' hl4 hr4
                refine ⟨(k + 1, updJ X i _, updJ J i (some g1, (I i).2.1 + k + 1, (J i).2.2)), rfl, ?_, ⟨f3, hk', ⟨?_, ?_⟩, oth _ _⟩, by show 8 - (k + 1) < 8 - k; omega⟩
                · show _ = [LE.row 22 1 (some gl) m m (longC m (updJ J i (some g1, (I i).2.1 + k + 1, (J i).2.2)))]
                  rw [← longC_set]; rfl
                · simp only [updJ, if_true]; exact p3
                · simp only [updJ, if_true]; omega
              · skip
                conv => whnf
                refine .row 0 22 1 gl m m _ _ i rfl (by rw [Int.toNat_natCast, Nat.mul_one]) (over_one _ _ _ (by rw [longC_len]; exact hi')) ?_
                conv => whnf
                refine .row 1 58 3 g1 ((I i).2.1 + k + 1) (J i).2.2 _ ((mk3 i (I i).2.1 ++ tl3 i k).flatten ++ lcells (0 - (i : Int) - 1) (k : Int) none 0 0) (((I i).2.1 + k) * 3) rfl (by rw [Int.toNat_natCast]) (over_tail _ (lcells 0 0 none 0 0) (lcells (0 - (i : Int) - 1) (k : Int) none 0 0) rfl hfl.symm) ?_
                conv => whnf
                refine .ok (by omega) (by omega) ?_
                conv => whnf
                refine .pub 1 58 3 (some g1) ((I i).2.1 + k + 1) (J i).2.2 _ rfl fun h4 hl4 hr4 hf4 => .done ?_
                have hr4 : RowAt h4 58 3 (some g1) ((I i).2.1 + k + 1) (J i).2.2 ((mk3 i (I i).2.1 ++ tl3 i k).flatten ++ lcells (0 - (i : Int) - 1) (k : Int) none 0 0) := hr4
                rw [hval] at hr4
                obtain ⟨f3, p3⟩ := p.inplace f hi' hl4 hr4
                refine ⟨(k + 1, updJ X i _, updJ J i (some g1, (I i).2.1 + k + 1, (J i).2.2)), rfl, ?_, ⟨f3, hk', ⟨?_, ?_⟩, oth _ _⟩, by show 8 - (k + 1) < 8 - k; omega⟩
                · show _ = [LE.row 22 1 (some gl) m m (longC m (updJ J i (some g1, (I i).2.1 + k + 1, (J i).2.2)))]
                  rw [← longC_set]; rfl
                · simp only [updJ, if_true]; exact p3
                · simp only [updJ, if_true]; omega
            · skip
              conv => whnf
              refine .mk g2 rfl (by omega) (by omega) ?_
              conv => whnf
              refine .mk gl rfl (by omega) (by omega) ?_
              conv => whnf
              refine ⟨?_, ?_⟩
              · skip
                conv => whnf
                refine .row 3 58 3 g2 ((I i).2.1 + k + 1) c2 _ ((mk3 i (I i).2.1 ++ tl3 i k).flatten ++ lcells (0 - (i : Int) - 1) (k : Int) none 0 0) (((I i).2.1 + k) * 3) rfl (by rw [Int.toNat_natCast]) (over_tail _ (lcells 0 0 none 0 0) (lcells (0 - (i : Int) - 1) (k : Int) none 0 0) rfl hfl.symm) ?_
                conv => whnf
                refine .row 0 22 1 gl m m _ _ i rfl (by rw [Int.toNat_natCast, Nat.mul_one]) (over_one _ _ _ (by rw [longC_len]; exact hi')) ?_
                conv => whnf
                refine .ok (by omega) (by omega) ?_
                conv => whnf
                refine .pub 1 58 3 (some g1) ((I i).2.1 + k) (J i).2.2 _ rfl fun h4 hl4 hr4 hf4 => .pub 3 58 3 (some g2) ((I i).2.1 + k + 1) c2 _ rfl fun h5 hl5 hr5 hf5 => .done ?_
                have hr5 : RowAt h5 58 3 (some g2) ((I i).2.1 + k + 1) c2 ((mk3 i (I i).2.1 ++ tl3 i k).flatten ++ lcells (0 - (i : Int) - 1) (k : Int) none 0 0) := hr5
                rw [hval] at hr5
                obtain ⟨f3, p3⟩ := p.moved f hi' hl4 hr4 hl5 hr5 (hf5 g2 rfl)
                refine ⟨(k + 1, updJ X i _, updJ J i (some g2, (I i).2.1 + k + 1, c2)), rfl, ?_, ⟨f3, hk', ⟨?_, ?_⟩, oth _ _⟩, by show 8 - (k + 1) < 8 - k; omega⟩
                · show _ = [LE.row 22 1 (some gl) m m (longC m (updJ J i (some g2, (I i).2.1 + k + 1, c2)))]
                  rw [← longC_set]; rfl
                · simp only [updJ, if_true]; exact p3
                · simp only [updJ, if_true]; omega
              · skip
                conv => whnf
                refine .row 0 22 1 gl m m _ _ i rfl (by rw [Int.toNat_natCast, Nat.mul_one]) (over_one _ _ _ (by rw [longC_len]; exact hi')) ?_
                conv => whnf
                refine .row 3 58 3 g2 ((I i).2.1 + k + 1) c2 _ ((mk3 i (I i).2.1 ++ tl3 i k).flatten ++ lcells (0 - (i : Int) - 1) (k : Int) none 0 0) (((I i).2.1 + k) * 3) rfl (by rw [Int.toNat_natCast]) (over_tail _ (lcells 0 0 none 0 0) (lcells (0 - (i : Int) - 1) (k : Int) none 0 0) rfl hfl.symm) ?_
                conv => whnf
                refine .ok (by omega) (by omega) ?_
                conv => whnf
                refine .pub 1 58 3 (some g1) ((I i).2.1 + k) (J i).2.2 _ rfl fun h4 hl4 hr4 hf4 => .pub 3 58 3 (some g2) ((I i).2.1 + k + 1) c2 _ rfl fun h5 hl5 hr5 hf5 => .done ?_
                have hr5 : RowAt h5 58 3 (some g2) ((I i).2.1 + k + 1) c2 ((mk3 i (I i).2.1 ++ tl3 i k).flatten ++ lcells (0 - (i : Int) - 1) (k : Int) none 0 0) := hr5
                rw [hval] at hr5
                obtain ⟨f3, p3⟩ := p.moved f hi' hl4 hr4 hl5 hr5 (hf5 g2 rfl)
                refine ⟨(k + 1, updJ X i _, updJ J i (some g2, (I i).2.1 + k + 1, c2)), rfl, ?_, ⟨f3, hk', ⟨?_, ?_⟩, oth _ _⟩, by show 8 - (k + 1) < 8 - k; omega⟩
                · show _ = [LE.row 22 1 (some gl) m m (longC m (updJ J i (some g2, (I i).2.1 + k + 1, c2)))]
                  rw [← longC_set]; rfl
                · simp only [updJ, if_true]; exact p3
                · simp only [updJ, if_true]; omega
          · omega
      · refine .done ?_
        obtain rfl : k = 8 := by omega
        conv => whnf
        refine .ok (by omega) (by omega) ?_
        conv => whnf
        refine ⟨(i + 1, X, J), rfl, rfl, ⟨f, hi', fun q hq => ?_⟩, by show m - (i + 1) < m - i; omega⟩
        by_cases hqi : q = i
        · subst hqi; rw [if_pos (Nat.lt_succ_self q)]; exact ⟨p, hJ⟩
        · have a1 := hoth q hq hqi
          by_cases hlt : q < i
          · rw [if_pos hlt] at a1; rw [if_pos (by omega)]; exact a1
          · rw [if_neg hlt] at a1; rw [if_neg (by omega)]; exact a1
    · have hst3 : ∀ q, q < m → Pair3 (X q) q (I q).2.1 8 (I q).1 (J q).1 (J q).2.2 ∧ (J q).2.1 = (I q).2.1 + 8 := fun q hq => by
        have := hst q hq
        rwa [if_pos (show q < i by omega)] at this
      conv => whnf
      refine .mk Nat [5, 8, 11] (fun i => [.v (.slice A0 m c0), .v (.slice (some gl) m m), .v (iv i)]) (fun _ => [.row 22 1 (some gl) m m (longC m J)]) (fun i h' => h' = h1 ∧ i ≤ m) (fun i => m - i) 0 (fun _ => rfl) ⟨rfl, Nat.zero_le _⟩ rfl rfl ?_
      rintro i e h1 ⟨rfl, hi⟩
      conv => whnf
      refine br_dec (fun u1 => ?_) (fun u1 => ?_)
      · have hi' : i < m := by omega
        have hni := hn i hi'
        obtain ⟨p, hJ⟩ := hst3 i hi'
        obtain ⟨g0, hg0⟩ := ht.ad (by omega)
        have hload : h1.cell? (g0.add (i * 1)) = some (.slice (I i).1 (I i).2.1 (I i).2.2) := (ht.mono f.le).one hg0 (map_range hi') rfl
        have hA := p.tab.mono (f.sub i hi')
        have hB := (p.row.mono (f.sub i hi')).tab (mt3_wid _ _ _) (by decide)
        obtain ⟨gB, hgB⟩ := hB.ad (by omega)
        conv => whnf
        refine .mk Nat [5, 8, 11, 12] (fun k => [.v (.slice A0 m c0), .v (.slice (some gl) m m), .v (iv i), .v (iv k)]) (fun _ => [.row 22 1 (some gl) m m (longC m J)]) (fun k h' => h' = h1 ∧ k ≤ (I i).2.1) (fun k => (I i).2.1 - k) 0 (fun _ => rfl) ⟨rfl, Nat.zero_le _⟩ rfl rfl ?_
        rintro k e2 h1 ⟨rfl, hk⟩
        conv => whnf
        refine .mk g0 hg0 (by omega) (by omega) ?_
        conv => whnf
        refine .hp _ (by rw [Int.toNat_natCast]; exact hload) ?_
        conv => whnf
        refine br_dec (fun u2 => ?_) (fun u2 => ?_)
        · have hk' : k < (I i).2.1 := by omega
          obtain ⟨gA, hgA⟩ := hA.ad (by omega)
          conv => whnf
          refine .mk g0 hg0 (by omega) (by omega) ?_
          conv => whnf
          refine .hp _ (by rw [Int.toNat_natCast]; exact hload) ?_
          conv => whnf
          refine .mk gA hgA (by omega) (by omega) ?_
          conv => whnf
          refine .hp (iv i) (by rw [Int.toNat_natCast]; exact hA.row hgA (mk3_at hk') 0 _ rfl) ?_
          conv => whnf
          refine br_dec (fun q => (q rfl).elim) (fun _ => ?_)
          conv => whnf
          refine .mk g0 hg0 (by omega) (by omega) ?_
          conv => whnf
          refine .hp _ (by rw [Int.toNat_natCast]; exact hload) ?_
          conv => whnf
          refine .mk gA hgA (by omega) (by omega) ?_
          conv => whnf
          refine .hp (iv k) (by rw [Int.toNat_natCast]; exact hA.row hgA (mk3_at hk') 1 _ rfl) ?_
          conv => whnf
          refine br_dec (fun q => (q rfl).elim) (fun _ => ?_)
          conv => whnf
          refine .ok (by omega) (by omega) ?_
          conv => whnf
          exact ⟨k + 1, rfl, rfl, ⟨rfl, hk'⟩, by omega⟩
        · conv => whnf
          refine .mk Nat [5, 8, 11, 13] (fun k => [.v (.slice A0 m c0), .v (.slice (some gl) m m), .v (iv i), .v (iv k)]) (fun _ => [.row 22 1 (some gl) m m (longC m J)]) (fun k h' => h' = h1 ∧ k ≤ 8) (fun k => 8 - k) 0 (fun _ => rfl) ⟨rfl, Nat.zero_le _⟩ rfl rfl ?_
          rintro k e3 h1 ⟨rfl, hk⟩
          conv => whnf
          refine br_dec (fun u3 => ?_) (fun u3 => ?_)
          · have hk' : k < 8 := by omega
            conv => whnf
            refine .mk gl rfl (by omega) (by omega) ?_
            conv => whnf
            refine .row 0 22 1 gl m m _ i _ rfl (by rw [Int.toNat_natCast, Nat.mul_one]) (longC_at hi') ?_
            conv => whnf
            refine .mk g0 hg0 (by omega) (by omega) ?_
            conv => whnf
            refine .hp _ (by rw [Int.toNat_natCast]; exact hload) ?_
            conv => whnf
            refine .ok (by omega) (by omega) ?_
            conv => whnf
            refine .mk gB hgB (by omega) (by omega) ?_
            conv => whnf
            refine .hp (iv (0 - (i : Int) - 1)) (by rw [show (((I i).2.1 : Int) + k).toNat = (I i).2.1 + k by omega]; exact hB.row hgB (mt3_tl hk') 0 _ rfl) ?_
            conv => whnf
            refine .ok (by omega) (by omega) ?_
            conv => whnf
            refine .ok (by omega) (by omega) ?_
            conv => whnf
            refine br_dec (fun q => (q rfl).elim) (fun _ => ?_)
            conv => whnf
            refine .mk gl rfl (by omega) (by omega) ?_
            conv => whnf
            refine .row 0 22 1 gl m m _ i _ rfl (by rw [Int.toNat_natCast, Nat.mul_one]) (longC_at hi') ?_
            conv => whnf
            refine .mk g0 hg0 (by omega) (by omega) ?_
            conv => whnf
            refine .hp _ (by rw [Int.toNat_natCast]; exact hload) ?_
            conv => whnf
            refine .ok (by omega) (by omega) ?_
            conv => whnf
            refine .mk gB hgB (by omega) (by omega) ?_
            conv => whnf
            refine .hp (iv k) (by rw [show (((I i).2.1 : Int) + k).toNat = (I i).2.1 + k by omega]; exact hB.row hgB (mt3_tl hk') 1 _ rfl) ?_
            conv => whnf
            refine br_dec (fun q => (q rfl).elim) (fun _ => ?_)
            conv => whnf
            refine .ok (by omega) (by omega) ?_
            conv => whnf
            exact ⟨k + 1, rfl, rfl, ⟨rfl, hk'⟩, by omega⟩
          · conv => whnf
            refine .ok (by omega) (by omega) ?_
            conv => whnf
            exact ⟨i + 1, rfl, rfl, ⟨rfl, hi'⟩, by omega⟩
      · conv => whnf
        exact .done ⟨rfl, Hp.le_trans hBB f.le⟩
end Go.Sx
