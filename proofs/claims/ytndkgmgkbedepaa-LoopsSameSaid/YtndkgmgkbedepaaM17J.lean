/- Nests that share no memory. Conditions: none. -/
import Derived.Test.YtndkgmgkbedepaaN17AA
import Derived.Test.YtndkgmgkbedepaaM17I
namespace Go.Sx
open Go.Proofs
set_option maxRecDepth 100000
theorem over_tail {α : Type} (P old r : List α) (h : r.length = old.length) {off : Nat} (ho : off = P.length) : over (P ++ old) off r = some (P ++ r) := by
  have := over_mid old r [] h P
  simp only [List.append_nil] at this
  rw [ho]; exact this
theorem mk3_at {i n k : Nat} (hk : k < n) : (mk3 i n)[k]? = some (lcells (i : Int) (k : Int) none 0 0) := by simp [mk3, hk]
theorem mt3_at {i n j k : Nat} (hk : k < n) : (mk3 i n ++ tl3 i j)[k]? = some (lcells (i : Int) (k : Int) none 0 0) := by
  rw [List.getElem?_append_left (by rw [mk3_len]; exact hk)]; exact mk3_at hk
theorem mt3_tl {i n j k : Nat} (hk : k < j) : (mk3 i n ++ tl3 i j)[n + k]? = some (lcells (0 - (i : Int) - 1) (k : Int) none 0 0) := by
  rw [List.getElem?_append_right (by rw [mk3_len]; omega), mk3_len, Nat.add_sub_cancel_left]; simp [tl3, hk]
theorem Hp.or_of {a b : Hp} {j : Nat} (h : a.or b j ≠ none) : a j ≠ none ∨ b j ≠ none := by
  unfold Hp.or at h
  cases e : a j with
  | none => rw [e] at h; exact .inr h
  | some o => exact .inl (by simp)
set_option maxRecDepth 100000 in
theorem apart27 {B Y h : Hp} {A A2 : Option Addr} {ma mb ca cb : Nat} {l l2 : Lo} (hc1 : l.cnt ≤ 200000) (hc2 : l2.cnt ≤ 200000) (hs1 : SAt h A ma l) (hs2 : SAt h A2 mb l2) (hY : Sep Y (colL A ma ca l ++ colL A2 mb cb l2)) (hle : ∀ s ∈ colL A ma ca l ++ colL A2 mb cb l2, s.2.1 ≤ 200000) (yl : Y.le h) (bl : B.le h) (hd : ∀ j, Y j ≠ none → B j = none) :
    Fn Try.prog 16 #[.slice A ma ca, .slice A2 mb cb] h fun v h' => v = .bool true ∧ B.le h' := by
  refine Fn.intro (args := [.slice A ma ca, .slice A2 mb cb]) mix16 Try.func16 rfl (by decide) Try.ntmps16 rfl (low16 rfl) rfl ?_
  conv => whnf
  refine .done (.mk _ (lists49 _ l (Nat.lt_succ_self _) hc1 A ma ca h h none 0 0 [] hs1 (RowS.nil h) (by simp; omega)) ?_)
  rintro _ h1 ⟨D1, n1, c1, rfl, q1⟩
  have hl1 := bods_cnt l
  have hl2 := bods_cnt l2
  conv => whnf
  refine .done (.mk _ (lists49 _ l2 (Nat.lt_succ_self _) hc2 A2 mb cb h h1 D1 n1 c1 _ hs2 q1 (by simp only [colL, List.nil_append, List.length_append, List.length_singleton]; omega)) ?_)
  rintro _ h2 ⟨A0, m, c0, rfl, q2⟩
  obtain ⟨xs, hxs⟩ : ∃ xs, xs = colL A ma ca l ++ colL A2 mb cb l2 := ⟨_, rfl⟩
  rw [List.nil_append, ← hxs] at q2
  rw [← hxs] at hY hle
  have hmx : m = xs.length := q2.n
  have hm : m ≤ 1000000 := by
    rw [hmx, hxs]; simp only [colL, List.length_append, List.length_singleton]; omega
  obtain ⟨X, hX1, hX2⟩ := hY.fam
  obtain ⟨I, hI⟩ : ∃ I : Nat → Sl, ∀ i (hi : i < xs.length), I i = xs[i] := ⟨fun i => xs.getD i (none, 0, 0), fun i hi => by simp [hi]⟩
  have hrows : xs.map slv = ((List.range m).map fun i => Value.slice (I i).1 (I i).2.1 (I i).2.2) := by
    apply List.ext_getElem
    · simp [hmx]
    · intro v h1 h2
      simp only [List.length_map] at h1
      simp only [List.getElem_map, List.getElem_range, hI v h1]
      rfl
  have hrawI : ∀ i, i < m → ∃ l, Raw3 (X i) (I i) l := fun i hi => by rw [hI i (by omega)]; exact (hX1 i (by omega)).2
  have hn : ∀ i, i < m → (I i).2.1 ≤ 200000 := fun i hi => by rw [hI i (by omega)]; exact hle _ (List.getElem_mem _)
  have hbF : B.le h2 := Hp.le_trans bl q2.le
  have f : FamA (B.or (h2.blk A0)) h2 m X := by
    refine ⟨Hp.or_le hbF (Hp.blk_le _ _), fun i hi => Hp.le_trans (hX1 i (by omega)).1 (Hp.le_trans yl q2.le), fun i hi j hj => ?_, fun i k hi hk => hX2 i k (by omega) (by omega)⟩
    have hyj : Y j ≠ none := fun q => hj (le_none (hX1 i (by omega)).1 q)
    refine Hp.or_none (hd j hyj) ?_
    cases q : h2.blk A0 j with
    | none => rfl
    | some o =>
      obtain ⟨g, e1, rfl⟩ := Hp.blk_in (by rw [q]; simp)
      exact absurd (le_none yl (q2.fr g e1)) hyj
  have ht : Tab (B.or (h2.blk A0)) 1 A0 m ((List.range m).map fun i => [Value.slice (I i).1 (I i).2.1 (I i).2.2]) := by
    have hr := q2.row.blk
    rw [hrows] at hr
    have hfl : ((List.range m).map fun i => [Value.slice (I i).1 (I i).2.1 (I i).2.2]).flatten = (List.range m).map fun i => Value.slice (I i).1 (I i).2.1 (I i).2.2 := by
      induction (List.range m) with
      | nil => rfl
      | cons x r ih => simp_all
    rw [← hfl] at hr
    refine (hr.tab (fun r hr => by obtain ⟨i, _, rfl⟩ := List.mem_map.1 hr; rfl) (by decide)).mono (Hp.le_or2 fun j hj => ?_)
    obtain ⟨g, e1, rfl⟩ := Hp.blk_in hj
    exact le_none bl (q2.fr g e1)
  have hBB : B.le (B.or (h2.blk A0)) := Hp.le_or _ _
  obtain ⟨B2, hB2⟩ : ∃ B2, B2 = B.or (h2.blk A0) := ⟨_, rfl⟩
  rw [← hB2] at f ht hBB
  clear hB2 hrows hX1 hX2 hbF hI hY hle hmx q2 q1 hl1 hl2 hs1 hs2 yl bl hd hc1 hc2 hxs
  conv => whnf
  refine .mk (Nat × (Nat → Hp)) [5, 6] (fun (i, _) => [.v (.slice A0 m c0), .v (iv i)]) (fun _ => [])
    (fun (i, X) h' => FamA B2 h' m X ∧ i ≤ m ∧ ∀ q, q < m → ∃ l, Raw3 (X q) (I q) l ∧ (q < i → l = mk3 q (I q).2.1)) (fun (i, _) => m - i) (0, X) (fun (_, _) => rfl)
    ⟨f, Nat.zero_le _, fun q hq => by obtain ⟨l, hl⟩ := hrawI q hq; exact ⟨l, hl, fun h => absurd h (Nat.not_lt_zero q)⟩⟩ rfl rfl ?_
  clear f hrawI h1 h2 X
  rintro ⟨i, X⟩ e h1 ⟨f, hi, hst⟩
  conv => whnf
  refine br_dec (fun u1 => ?_) (fun u1 => ?_)
  · have hi' : i < m := by omega
    have hni := hn i hi'
    obtain ⟨g0, hg0⟩ := ht.ad (by omega)
    have hload : ∀ hh : Hp, B2.le hh → hh.cell? (g0.add (i * 1)) = some (.slice (I i).1 (I i).2.1 (I i).2.2) := fun hh hl => (ht.mono hl).one hg0 (map_range hi') rfl
    obtain ⟨l0, hl0, _⟩ := hst i hi'
    conv => whnf
    refine .mk (Nat × (Nat → Hp)) [5, 6, 7] (fun (k, _) => [.v (.slice A0 m c0), .v (iv i), .v (iv k)]) (fun _ => [])
      (fun (k, X) h' => FamA B2 h' m X ∧ k ≤ (I i).2.1 ∧ (∃ l, Raw3 (X i) (I i) l ∧ l.take k = (mk3 i (I i).2.1).take k) ∧ ∀ q, q < m → q ≠ i → ∃ l, Raw3 (X q) (I q) l ∧ (q < i → l = mk3 q (I q).2.1)) (fun (k, _) => (I i).2.1 - k) (0, X) (fun (_, _) => rfl)
      ⟨f, Nat.zero_le _, ⟨l0, hl0, by simp⟩, fun q hq _ => hst q hq⟩ rfl rfl ?_
    rintro ⟨k, X⟩ e2 h2 ⟨f, hk, ⟨l, ⟨hll, hlw, hro⟩, hlt⟩, hoth⟩
    conv => whnf
    refine .mk g0 hg0 (by omega) (by omega) ?_
    conv => whnf
    refine .hp _ (by rw [Int.toNat_natCast]; exact hload _ f.le) ?_
    conv => whnf
    refine br_dec (fun u2 => ?_) (fun u2 => ?_)
    · have hk' : k < (I i).2.1 := by omega
      obtain ⟨g, cs, cs', e1, e2, e3, e4⟩ := (hro.mono (f.sub i hi')).write3 hlw hk' (r := lcells (i : Int) (k : Int) none 0 0) rfl
      have hgX := hro.mem e1
      conv => whnf
      refine .mk g0 hg0 (by omega) (by omega) ?_
      conv => whnf
      refine .hp _ (by rw [Int.toNat_natCast]; exact hload _ f.le) ?_
      conv => whnf
      refine .mk ⟨g, 0, none⟩ e1 (by omega) (by omega) ?_
      conv => whnf
      refine .hp g (k * 3) 41 cs cs' (by rw [Int.toNat_natCast, add_lit, Nat.zero_add]) e2 e3 ?_
      conv => whnf
      refine .ok (by omega) (by omega) ?_
      conv => whnf
      have hmk : (mk3 i (I i).2.1)[k]'(by rw [mk3_len]; exact hk') = lcells (i : Int) (k : Int) none 0 0 := by simp [mk3]
      have f2 := f.upd (h' := h2.put g (.cells cs'.toArray 41 (0, 0))) (X' := (h2.put g (.cells cs'.toArray 41 (0, 0))).on fun j => j = g) hi' (fun j o q => by
        obtain ⟨q1, q2⟩ := Hp.minus_some q
        rw [Hp.put_ne _ _ (fun w => hgX (by rw [show (⟨g, 0, none⟩ : Addr).block = g from rfl, ← w]; exact q1))]
        exact q2) (Hp.on_le _ _) (fun j hj => by rw [Hp.on_ne hj]; exact Hp.minus_in hgX)
      refine ⟨(k + 1, updJ X i ((h2.put g (.cells cs'.toArray 41 (0, 0))).on fun j => j = g)), rfl, rfl, ⟨f2, hk', ⟨l.set k (lcells (i : Int) (k : Int) none 0 0), ⟨by simp [hll], fun r hr => ?_, ?_⟩, ?_⟩, fun q hq hne => ?_⟩, by show (I i).2.1 - (k + 1) < (I i).2.1 - k; omega⟩
      · rcases List.mem_or_eq_of_mem_set hr with hr | rfl
        · exact hlw r hr
        · rfl
      · simp only [updJ, if_true]
        exact e4.on fun q hq => by rw [e1] at hq; injection hq with hq; subst hq; rfl
      · rw [take_succ' (by simp; omega), take_succ' (by rw [mk3_len]; exact hk'), hmk, List.take_set_of_le (Nat.le_refl k), hlt]
        simp
      · simp only [updJ, if_neg hne]; exact hoth q hq hne
    · have hkn : k = (I i).2.1 := by omega
      have hlm : l = mk3 i (I i).2.1 := by
        rw [hkn, List.take_of_length_le (by omega), List.take_of_length_le (by rw [mk3_len]; omega)] at hlt
        exact hlt
      conv => whnf
      refine .ok (by omega) (by omega) ?_
      conv => whnf
      refine ⟨(i + 1, X), rfl, rfl, ⟨f, hi', fun q hq => ?_⟩, by show m - (i + 1) < m - i; omega⟩
      by_cases hqi : q = i
      · subst hqi
        exact ⟨l, ⟨hll, hlw, hro⟩, fun _ => hlm⟩
      · obtain ⟨l', a1, a2⟩ := hoth q hq hqi
        exact ⟨l', a1, fun hlt2 => a2 (by omega)⟩
  · have hst2 : ∀ q, q < m → RowAt (X q) 41 3 (I q).1 (I q).2.1 (I q).2.2 (mk3 q (I q).2.1).flatten := fun q hq => by
      obtain ⟨l, ⟨_, _, a2⟩, a3⟩ := hst q hq
      have := a3 (by omega)
      subst this
      exact a2
    clear hst
    conv => whnf
    refine EvMake.one m (.slice none 0 0) rfl rfl rfl rfl (by omega) (by omega) fun gl => ?_
    rw [show List.replicate m (Value.slice none 0 0) = longC m fun _ => (none, 0, 0) by simp [longC, List.map_const']]
    conv => whnf
    refine .mk (Nat × (Nat → Hp) × (Nat → Sl)) [5, 8, 9] (fun (i, _, _) => [.v (.slice A0 m c0), .v (.slice (some gl) m m), .v (iv i)]) (fun (_, _, J) => [.row 22 1 (some gl) m m (longC m J)])
      (fun (i, X, J) h' => FamA B2 h' m X ∧ i ≤ m ∧ ∀ q, q < m → (if q < i then Pair3 (X q) q (I q).2.1 8 (I q).1 (J q).1 (J q).2.2 ∧ (J q).2.1 = (I q).2.1 + 8 else RowAt (X q) 41 3 (I q).1 (I q).2.1 (I q).2.2 (mk3 q (I q).2.1).flatten)) (fun (i, _, _) => m - i) (0, X, fun _ => (none, 0, 0)) (fun (_, _, _) => rfl)
      ⟨f, Nat.zero_le _, fun q hq => by rw [if_neg (Nat.not_lt_zero q)]; exact hst2 q hq⟩ rfl rfl ?_
    clear f hst2 h1 X hi u1 i e
    rintro ⟨i, X, J⟩ e h1 ⟨f, hi, hst⟩
    conv => whnf
    refine br_dec (fun u1 => ?_) (fun u1 => ?_)
    · have hi' : i < m := by omega
      have hni := hn i hi'
      obtain ⟨g0, hg0⟩ := ht.ad (by omega)
      have hload : ∀ hh : Hp, B2.le hh → hh.cell? (g0.add (i * 1)) = some (.slice (I i).1 (I i).2.1 (I i).2.2) := fun hh hl => (ht.mono hl).one hg0 (map_range hi') rfl
      have p0 := hst i hi'
      rw [if_neg (Nat.lt_irrefl i)] at p0
      conv => whnf
      refine .mk g0 hg0 (by omega) (by omega) ?_
      conv => whnf
      refine .hp _ (by rw [Int.toNat_natCast]; exact hload _ f.le) ?_
      conv => whnf
      refine .mk gl rfl (by omega) (by omega) ?_
      conv => whnf
      refine .row 0 22 1 gl m m _ _ i rfl (by rw [Int.toNat_natCast, Nat.mul_one]) (over_one _ _ _ (by rw [longC_len]; exact hi')) ?_
      rw [longC_set (I i)]
      conv => whnf
      refine .mkS [0] (Nat × (Nat → Hp) × (Nat → Sl)) [5, 8, 9, 10] (fun (k, _, _) => [.v (.slice A0 m c0), .v (.slice (some gl) m m), .v (iv i), .v (iv k)]) (fun (_, _, J) => [.row 22 1 (some gl) m m (longC m J)])
        (fun (k, X, J) h' => FamA B2 h' m X ∧ k ≤ 8 ∧ (Pair3 (X i) i (I i).2.1 k (I i).1 (J i).1 (J i).2.2 ∧ (J i).2.1 = (I i).2.1 + k) ∧ ∀ q, q < m → q ≠ i → (if q < i then Pair3 (X q) q (I q).2.1 8 (I q).1 (J q).1 (J q).2.2 ∧ (J q).2.1 = (I q).2.1 + 8 else RowAt (X q) 41 3 (I q).1 (I q).2.1 (I q).2.2 (mk3 q (I q).2.1).flatten)) (fun (k, _, _) => 8 - k) (0, X, updJ J i (I i)) (fun (_, _, _) => rfl)
        ⟨f, Nat.zero_le _, ⟨by simp only [updJ, if_true]; exact Pair3.zero p0, by simp [updJ]⟩, fun q hq hne => by simp only [updJ, if_neg hne]; exact hst q hq⟩ rfl rfl rfl ?_
      rintro ⟨k, X, J⟩ e2 h2 ⟨f, hk, ⟨p, hJ⟩, hoth⟩
      by_cases hk' : k < 8
      · have oth : ∀ (X' : Hp) (s : Sl), ∀ q, q < m → q ≠ i → (if q < i then Pair3 (updJ X i X' q) q (I q).2.1 8 (I q).1 (updJ J i s q).1 (updJ J i s q).2.2 ∧ (updJ J i s q).2.1 = (I q).2.1 + 8 else RowAt (updJ X i X' q) 41 3 (I q).1 (I q).2.1 (I q).2.2 (mk3 q (I q).2.1).flatten) := fun X' s q hq hne => by
          simp only [updJ, if_neg hne]; exact hoth q hq hne
        have hval : (mk3 i (I i).2.1 ++ tl3 i k).flatten ++ lcells (0 - (i : Int) - 1) (k : Int) none 0 0 = (mk3 i (I i).2.1 ++ tl3 i (k + 1)).flatten := by
          rw [tl3_add, ← List.append_assoc, List.flatten_append (L₁ := mk3 i (I i).2.1 ++ tl3 i k), List.flatten_singleton]
        have hfl : (mk3 i (I i).2.1 ++ tl3 i k).flatten.length = ((I i).2.1 + k) * 3 := by
          rw [flat_wid _ (mt3_wid i _ k), List.length_append, mk3_len, tl3_len]
        have hrow := p.row.mono (f.sub i hi')
        cases hA : (J i).1 with
        | none =>
          rw [hA] at p hrow
          have hz : (I i).2.1 + k = 0 := by
            rcases hrow.2 with ⟨_, q, _⟩ | ⟨_, _, q, _⟩
            · exact q
            · cases q
          refine .abs 41 3 none ((I i).2.1 + k) (J i).2.2 _ hrow (.done ?_)
          conv => whnf
          refine br_dec (fun u2 => ?_) (fun u2 => ?_)
          · conv => whnf
            refine .mk gl rfl (by omega) (by omega) ?_
            conv => whnf
            refine .row 0 22 1 gl m m _ i _ rfl (by rw [Int.toNat_natCast, Nat.mul_one]) (longC_at hi') ?_
            rw [hA, hJ]
            conv => whnf
            refine .ok (by omega) (by omega) ?_
            conv => whnf
            refine .ok (by omega) (by omega) ?_
            conv => whnf
            refine .old 1 _ (lcells 0 0 none 0 0) rfl rfl (lcells_one _ _ _ _ _) (by simp [maxLen]; omega) (by omega) fun A2 c2 hA2 => ?_
            obtain ⟨g2, rfl⟩ : ∃ g2, A2 = some g2 := by
              cases A2 with
              | none => have := (hA2.1.1 rfl).2; omega
              | some g2 => exact ⟨g2, rfl⟩
            conv => whnf
            refine .mk g2 rfl (by omega) (by omega) ?_
            conv => whnf
            refine .mk gl rfl (by omega) (by omega) ?_
            conv => whnf
            refine ⟨?_, ?_⟩
            · skip
              conv => whnf
              refine .row 1 41 3 g2 ((I i).2.1 + k + 1) c2 _ ((mk3 i (I i).2.1 ++ tl3 i k).flatten ++ lcells (0 - (i : Int) - 1) (k : Int) none 0 0) (((I i).2.1 + k) * 3) rfl (by rw [Int.toNat_natCast]) (over_tail _ (lcells 0 0 none 0 0) (lcells (0 - (i : Int) - 1) (k : Int) none 0 0) rfl hfl.symm) ?_
              conv => whnf
              refine .row 0 22 1 gl m m _ _ i rfl (by rw [Int.toNat_natCast, Nat.mul_one]) (over_one _ _ _ (by rw [longC_len]; exact hi')) ?_
              conv => whnf
              refine .ok (by omega) (by omega) ?_
              conv => whnf
              refine .pub 1 41 3 (some g2) ((I i).2.1 + k + 1) c2 _ rfl fun h4 hl4 hr4 hf4 => .done ?_
              have hr4 : RowAt h4 41 3 (some g2) ((I i).2.1 + k + 1) c2 ((mk3 i (I i).2.1 ++ tl3 i k).flatten ++ lcells (0 - (i : Int) - 1) (k : Int) none 0 0) := hr4
              rw [hval] at hr4
              obtain ⟨f3, p3⟩ := p.moved f hi' (Hp.le_refl _) hrow hl4 hr4 (hf4 g2 rfl)
              refine ⟨(k + 1, updJ X i _, updJ J i (some g2, (I i).2.1 + k + 1, c2)), rfl, ?_, ⟨f3, hk', ⟨?_, ?_⟩, oth _ _⟩, by show 8 - (k + 1) < 8 - k; omega⟩
              · show _ = [LE.row 22 1 (some gl) m m (longC m (updJ J i (some g2, (I i).2.1 + k + 1, c2)))]
                rw [← longC_set]; rfl
              · simp only [updJ, if_true]; exact p3
              · simp only [updJ, if_true]; omega
            · skip
              conv => whnf
              refine .row 0 22 1 gl m m _ _ i rfl (by rw [Int.toNat_natCast, Nat.mul_one]) (over_one _ _ _ (by rw [longC_len]; exact hi')) ?_
              conv => whnf
              refine .row 1 41 3 g2 ((I i).2.1 + k + 1) c2 _ ((mk3 i (I i).2.1 ++ tl3 i k).flatten ++ lcells (0 - (i : Int) - 1) (k : Int) none 0 0) (((I i).2.1 + k) * 3) rfl (by rw [Int.toNat_natCast]) (over_tail _ (lcells 0 0 none 0 0) (lcells (0 - (i : Int) - 1) (k : Int) none 0 0) rfl hfl.symm) ?_
              conv => whnf
              refine .ok (by omega) (by omega) ?_
              conv => whnf
              refine .pub 1 41 3 (some g2) ((I i).2.1 + k + 1) c2 _ rfl fun h4 hl4 hr4 hf4 => .done ?_
              have hr4 : RowAt h4 41 3 (some g2) ((I i).2.1 + k + 1) c2 ((mk3 i (I i).2.1 ++ tl3 i k).flatten ++ lcells (0 - (i : Int) - 1) (k : Int) none 0 0) := hr4
              rw [hval] at hr4
              obtain ⟨f3, p3⟩ := p.moved f hi' (Hp.le_refl _) hrow hl4 hr4 (hf4 g2 rfl)
              refine ⟨(k + 1, updJ X i _, updJ J i (some g2, (I i).2.1 + k + 1, c2)), rfl, ?_, ⟨f3, hk', ⟨?_, ?_⟩, oth _ _⟩, by show 8 - (k + 1) < 8 - k; omega⟩
              · show _ = [LE.row 22 1 (some gl) m m (longC m (updJ J i (some g2, (I i).2.1 + k + 1, c2)))]
                rw [← longC_set]; rfl
              · simp only [updJ, if_true]; exact p3
              · simp only [updJ, if_true]; omega
          · omega
        | some g1 =>
          rw [hA] at p hrow
          refine .abs 41 3 (some g1) ((I i).2.1 + k) (J i).2.2 _ hrow (.done ?_)
          conv => whnf
          refine br_dec (fun u2 => ?_) (fun u2 => ?_)
          · conv => whnf
            refine .mk gl rfl (by omega) (by omega) ?_
            conv => whnf
            refine .row 0 22 1 gl m m _ i _ rfl (by rw [Int.toNat_natCast, Nat.mul_one]) (longC_at hi') ?_
            rw [hA, hJ]
            conv => whnf
            refine .ok (by omega) (by omega) ?_
            conv => whnf
            refine .ok (by omega) (by omega) ?_
            conv => whnf
            refine .keep 1 g1 _ (lcells 0 0 none 0 0) rfl rfl rfl (lcells_one _ _ _ _ _) (by decide) (by simp [maxLen]; omega) (by omega) (fun _ => ?_) (fun _ g2 c2 _ => ?_)
            · skip
              conv => whnf
              refine .mk g1 rfl (by omega) (by omega) ?_
              conv => whnf
              refine .mk gl rfl (by omega) (by omega) ?_
              conv => whnf
              refine ⟨?_, ?_⟩
              · skip
                conv => whnf
                refine .row 1 41 3 g1 ((I i).2.1 + k + 1) (J i).2.2 _ ((mk3 i (I i).2.1 ++ tl3 i k).flatten ++ lcells (0 - (i : Int) - 1) (k : Int) none 0 0) (((I i).2.1 + k) * 3) rfl (by rw [Int.toNat_natCast]) (over_tail _ (lcells 0 0 none 0 0) (lcells (0 - (i : Int) - 1) (k : Int) none 0 0) rfl hfl.symm) ?_
                conv => whnf
                refine .row 0 22 1 gl m m _ _ i rfl (by rw [Int.toNat_natCast, Nat.mul_one]) (over_one _ _ _ (by rw [longC_len]; exact hi')) ?_
                conv => whnf
                refine .ok (by omega) (by omega) ?_
                conv => whnf
                refine .pub 1 41 3 (some g1) ((I i).2.1 + k + 1) (J i).2.2 _ rfl fun h4 hl4 hr4 hf4 => .done ?_
                have hr4 : RowAt h4 41 3 (some g1) ((I i).2.1 + k + 1) (J i).2.2 ((mk3 i (I i).2.1 ++ tl3 i k).flatten ++ lcells (0 - (i : Int) - 1) (k : Int) none 0 0) := hr4
                rw [hval] at hr4
                obtain ⟨f3, p3⟩ := p.inplace f hi' hl4 hr4
                refine ⟨(k + 1, updJ X i _, updJ J i (some g1, (I i).2.1 + k + 1, (J i).2.2)), rfl, ?_, ⟨f3, hk', ⟨?_, ?_⟩, oth _ _⟩, by show 8 - (k + 1) < 8 - k; omega⟩
                · show _ = [LE.row 22 1 (some gl) m m (longC m (updJ J i (some g1, (I i).2.1 + k + 1, (J i).2.2)))]
                  rw [← longC_set]; rfl
                · simp only [updJ, if_true]; exact p3
                · simp only [updJ, if_true]; omega
              · skip
                conv => whnf
                refine .row 0 22 1 gl m m _ _ i rfl (by rw [Int.toNat_natCast, Nat.mul_one]) (over_one _ _ _ (by rw [longC_len]; exact hi')) ?_
                conv => whnf
                refine .row 1 41 3 g1 ((I i).2.1 + k + 1) (J i).2.2 _ ((mk3 i (I i).2.1 ++ tl3 i k).flatten ++ lcells (0 - (i : Int) - 1) (k : Int) none 0 0) (((I i).2.1 + k) * 3) rfl (by rw [Int.toNat_natCast]) (over_tail _ (lcells 0 0 none 0 0) (lcells (0 - (i : Int) - 1) (k : Int) none 0 0) rfl hfl.symm) ?_
                conv => whnf
                refine .ok (by omega) (by omega) ?_
                conv => whnf
                refine .pub 1 41 3 (some g1) ((I i).2.1 + k + 1) (J i).2.2 _ rfl fun h4 hl4 hr4 hf4 => .done ?_
                have hr4 : RowAt h4 41 3 (some g1) ((I i).2.1 + k + 1) (J i).2.2 ((mk3 i (I i).2.1 ++ tl3 i k).flatten ++ lcells (0 - (i : Int) - 1) (k : Int) none 0 0) := hr4
                rw [hval] at hr4
                obtain ⟨f3, p3⟩ := p.inplace f hi' hl4 hr4
                refine ⟨(k + 1, updJ X i _, updJ J i (some g1, (I i).2.1 + k + 1, (J i).2.2)), rfl, ?_, ⟨f3, hk', ⟨?_, ?_⟩, oth _ _⟩, by show 8 - (k + 1) < 8 - k; omega⟩
                · show _ = [LE.row 22 1 (some gl) m m (longC m (updJ J i (some g1, (I i).2.1 + k + 1, (J i).2.2)))]
                  rw [← longC_set]; rfl
                · simp only [updJ, if_true]; exact p3
                · simp only [updJ, if_true]; omega
            · skip
              conv => whnf
              refine .mk g2 rfl (by omega) (by omega) ?_
              conv => whnf
              refine .mk gl rfl (by omega) (by omega) ?_
              conv => whnf
              refine ⟨?_, ?_⟩
              · skip
                conv => whnf
                refine .row 3 41 3 g2 ((I i).2.1 + k + 1) c2 _ ((mk3 i (I i).2.1 ++ tl3 i k).flatten ++ lcells (0 - (i : Int) - 1) (k : Int) none 0 0) (((I i).2.1 + k) * 3) rfl (by rw [Int.toNat_natCast]) (over_tail _ (lcells 0 0 none 0 0) (lcells (0 - (i : Int) - 1) (k : Int) none 0 0) rfl hfl.symm) ?_
                conv => whnf
                refine .row 0 22 1 gl m m _ _ i rfl (by rw [Int.toNat_natCast, Nat.mul_one]) (over_one _ _ _ (by rw [longC_len]; exact hi')) ?_
                conv => whnf
                refine .ok (by omega) (by omega) ?_
                conv => whnf
                refine .pub 1 41 3 (some g1) ((I i).2.1 + k) (J i).2.2 _ rfl fun h4 hl4 hr4 hf4 => .pub 3 41 3 (some g2) ((I i).2.1 + k + 1) c2 _ rfl fun h5 hl5 hr5 hf5 => .done ?_
                have hr5 : RowAt h5 41 3 (some g2) ((I i).2.1 + k + 1) c2 ((mk3 i (I i).2.1 ++ tl3 i k).flatten ++ lcells (0 - (i : Int) - 1) (k : Int) none 0 0) := hr5
                rw [hval] at hr5
                obtain ⟨f3, p3⟩ := p.moved f hi' hl4 hr4 hl5 hr5 (hf5 g2 rfl)
                refine ⟨(k + 1, updJ X i _, updJ J i (some g2, (I i).2.1 + k + 1, c2)), rfl, ?_, ⟨f3, hk', ⟨?_, ?_⟩, oth _ _⟩, by show 8 - (k + 1) < 8 - k; omega⟩
                · show _ = [LE.row 22 1 (some gl) m m (longC m (updJ J i (some g2, (I i).2.1 + k + 1, c2)))]
                  rw [← longC_set]; rfl
                · simp only [updJ, if_true]; exact p3
                · simp only [updJ, if_true]; omega
              · skip
                conv => whnf
                refine .row 0 22 1 gl m m _ _ i rfl (by rw [Int.toNat_natCast, Nat.mul_one]) (over_one _ _ _ (by rw [longC_len]; exact hi')) ?_
                conv => whnf
                refine .row 3 41 3 g2 ((I i).2.1 + k + 1) c2 _ ((mk3 i (I i).2.1 ++ tl3 i k).flatten ++ lcells (0 - (i : Int) - 1) (k : Int) none 0 0) (((I i).2.1 + k) * 3) rfl (by rw [Int.toNat_natCast]) (over_tail _ (lcells 0 0 none 0 0) (lcells (0 - (i : Int) - 1) (k : Int) none 0 0) rfl hfl.symm) ?_
                conv => whnf
                refine .ok (by omega) (by omega) ?_
                conv => whnf
                refine .pub 1 41 3 (some g1) ((I i).2.1 + k) (J i).2.2 _ rfl fun h4 hl4 hr4 hf4 => .pub 3 41 3 (some g2) ((I i).2.1 + k + 1) c2 _ rfl fun h5 hl5 hr5 hf5 => .done ?_
                have hr5 : RowAt h5 41 3 (some g2) ((I i).2.1 + k + 1) c2 ((mk3 i (I i).2.1 ++ tl3 i k).flatten ++ lcells (0 - (i : Int) - 1) (k : Int) none 0 0) := hr5
                rw [hval] at hr5
                obtain ⟨f3, p3⟩ := p.moved f hi' hl4 hr4 hl5 hr5 (hf5 g2 rfl)
                refine ⟨(k + 1, updJ X i _, updJ J i (some g2, (I i).2.1 + k + 1, c2)), rfl, ?_, ⟨f3, hk', ⟨?_, ?_⟩, oth _ _⟩, by show 8 - (k + 1) < 8 - k; omega⟩
                · show _ = [LE.row 22 1 (some gl) m m (longC m (updJ J i (some g2, (I i).2.1 + k + 1, c2)))]
                  rw [← longC_set]; rfl
                · simp only [updJ, if_true]; exact p3
                · simp only [updJ, if_true]; omega
          · omega
      · refine .done ?_
        obtain rfl : k = 8 := by omega
        conv => whnf
        refine .ok (by omega) (by omega) ?_
        conv => whnf
        refine ⟨(i + 1, X, J), rfl, rfl, ⟨f, hi', fun q hq => ?_⟩, by show m - (i + 1) < m - i; omega⟩
        by_cases hqi : q = i
        · subst hqi; rw [if_pos (Nat.lt_succ_self q)]; exact ⟨p, hJ⟩
        · have a1 := hoth q hq hqi
          by_cases hlt : q < i
          · rw [if_pos hlt] at a1; rw [if_pos (by omega)]; exact a1
          · rw [if_neg hlt] at a1; rw [if_neg (by omega)]; exact a1
    · have hst3 : ∀ q, q < m → Pair3 (X q) q (I q).2.1 8 (I q).1 (J q).1 (J q).2.2 ∧ (J q).2.1 = (I q).2.1 + 8 := fun q hq => by
        have := hst q hq
        rwa [if_pos (show q < i by omega)] at this
      conv => whnf
      refine .mk Nat [5, 8, 11] (fun i => [.v (.slice A0 m c0), .v (.slice (some gl) m m), .v (iv i)]) (fun _ => [.row 22 1 (some gl) m m (longC m J)]) (fun i h' => h' = h1 ∧ i ≤ m) (fun i => m - i) 0 (fun _ => rfl) ⟨rfl, Nat.zero_le _⟩ rfl rfl ?_
      rintro i e h1 ⟨rfl, hi⟩
      conv => whnf
      refine br_dec (fun u1 => ?_) (fun u1 => ?_)
      · have hi' : i < m := by omega
        have hni := hn i hi'
        obtain ⟨p, hJ⟩ := hst3 i hi'
        obtain ⟨g0, hg0⟩ := ht.ad (by omega)
        have hload : h1.cell? (g0.add (i * 1)) = some (.slice (I i).1 (I i).2.1 (I i).2.2) := (ht.mono f.le).one hg0 (map_range hi') rfl
        have hA := p.tab.mono (f.sub i hi')
        have hB := (p.row.mono (f.sub i hi')).tab (mt3_wid _ _ _) (by decide)
        obtain ⟨gB, hgB⟩ := hB.ad (by omega)
        conv => whnf
        refine .mk Nat [5, 8, 11, 12] (fun k => [.v (.slice A0 m c0), .v (.slice (some gl) m m), .v (iv i), .v (iv k)]) (fun _ => [.row 22 1 (some gl) m m (longC m J)]) (fun k h' => h' = h1 ∧ k ≤ (I i).2.1) (fun k => (I i).2.1 - k) 0 (fun _ => rfl) ⟨rfl, Nat.zero_le _⟩ rfl rfl ?_
        rintro k e2 h1 ⟨rfl, hk⟩
        conv => whnf
        refine .mk g0 hg0 (by omega) (by omega) ?_
        conv => whnf
        refine .hp _ (by rw [Int.toNat_natCast]; exact hload) ?_
        conv => whnf
        refine br_dec (fun u2 => ?_) (fun u2 => ?_)
        · have hk' : k < (I i).2.1 := by omega
          obtain ⟨gA, hgA⟩ := hA.ad (by omega)
          conv => whnf
          refine .mk g0 hg0 (by omega) (by omega) ?_
          conv => whnf
          refine .hp _ (by rw [Int.toNat_natCast]; exact hload) ?_
          conv => whnf
          refine .mk gA hgA (by omega) (by omega) ?_
          conv => whnf
          refine .hp (iv i) (by rw [Int.toNat_natCast]; exact hA.row hgA (mk3_at hk') 0 _ rfl) ?_
          conv => whnf
          refine br_dec (fun q => (q rfl).elim) (fun _ => ?_)
          conv => whnf
          refine .mk g0 hg0 (by omega) (by omega) ?_
          conv => whnf
          refine .hp _ (by rw [Int.toNat_natCast]; exact hload) ?_
          conv => whnf
          refine .mk gA hgA (by omega) (by omega) ?_
          conv => whnf
          refine .hp (iv k) (by rw [Int.toNat_natCast]; exact hA.row hgA (mk3_at hk') 1 _ rfl) ?_
          conv => whnf
          refine br_dec (fun q => (q rfl).elim) (fun _ => ?_)
          conv => whnf
          refine .ok (by omega) (by omega) ?_
          conv => whnf
          exact ⟨k + 1, rfl, rfl, ⟨rfl, hk'⟩, by omega⟩
        · conv => whnf
          refine .mk Nat [5, 8, 11, 13] (fun k => [.v (.slice A0 m c0), .v (.slice (some gl) m m), .v (iv i), .v (iv k)]) (fun _ => [.row 22 1 (some gl) m m (longC m J)]) (fun k h' => h' = h1 ∧ k ≤ 8) (fun k => 8 - k) 0 (fun _ => rfl) ⟨rfl, Nat.zero_le _⟩ rfl rfl ?_
          rintro k e3 h1 ⟨rfl, hk⟩
          conv => whnf
          refine br_dec (fun u3 => ?_) (fun u3 => ?_)
          · have hk' : k < 8 := by omega
            conv => whnf
            refine .mk gl rfl (by omega) (by omega) ?_
            conv => whnf
            refine .row 0 22 1 gl m m _ i _ rfl (by rw [Int.toNat_natCast, Nat.mul_one]) (longC_at hi') ?_
            conv => whnf
            refine .mk g0 hg0 (by omega) (by omega) ?_
            conv => whnf
            refine .hp _ (by rw [Int.toNat_natCast]; exact hload) ?_
            conv => whnf
            refine .ok (by omega) (by omega) ?_
            conv => whnf
            refine .mk gB hgB (by omega) (by omega) ?_
            conv => whnf
            refine .hp (iv (0 - (i : Int) - 1)) (by rw [show (((I i).2.1 : Int) + k).toNat = (I i).2.1 + k by omega]; exact hB.row hgB (mt3_tl hk') 0 _ rfl) ?_
            conv => whnf
            refine .ok (by omega) (by omega) ?_
            conv => whnf
            refine .ok (by omega) (by omega) ?_
            conv => whnf
            refine br_dec (fun q => (q rfl).elim) (fun _ => ?_)
            conv => whnf
            refine .mk gl rfl (by omega) (by omega) ?_
            conv => whnf
            refine .row 0 22 1 gl m m _ i _ rfl (by rw [Int.toNat_natCast, Nat.mul_one]) (longC_at hi') ?_
            conv => whnf
            refine .mk g0 hg0 (by omega) (by omega) ?_
            conv => whnf
            refine .hp _ (by rw [Int.toNat_natCast]; exact hload) ?_
            conv => whnf
            refine .ok (by omega) (by omega) ?_
            conv => whnf
            refine .mk gB hgB (by omega) (by omega) ?_
            conv => whnf
            refine .hp (iv k) (by rw [show (((I i).2.1 : Int) + k).toNat = (I i).2.1 + k by omega]; exact hB.row hgB (mt3_tl hk') 1 _ rfl) ?_
            conv => whnf
            refine br_dec (fun q => (q rfl).elim) (fun _ => ?_)
            conv => whnf
            refine .ok (by omega) (by omega) ?_
            conv => whnf
            exact ⟨k + 1, rfl, rfl, ⟨rfl, hk'⟩, by omega⟩
          · conv => whnf
            refine .ok (by omega) (by omega) ?_
            conv => whnf
            exact ⟨i + 1, rfl, rfl, ⟨rfl, hi'⟩, by omega⟩
      · conv => whnf
        exact .done ⟨rfl, Hp.le_trans hBB f.le⟩
end Go.Sx
namespace Go.Sx
open Go.Proofs
set_option maxRecDepth 100000
def UK : BK := fun X B m c b => m = b.len ∧ (b = .nil ∨ ∃ hB, RowAt X 41 3 B m c b.cl.flatten ∧ (∀ g, B = some g → hB g.block = none) ∧ hB.le X ∧ UB hB b)
theorem ub_bds : ∀ (l : Lo) (X : Hp), UB X l ↔ Bds UK X l
  | .nil, _ => Iff.rfl
  | .cons _ _ _ _ _ _ r, X => by
    simp only [UB, Bds, UK, ub_bds r]
theorem UW.uk {X : Hp} {A : Option Addr} {m c : Nat} {l : Lo} (s : UW X A m c l) : UK X A m c l := ⟨s.len, .inr s.ex⟩
theorem UW.sat {X : Hp} {A : Option Addr} {m c : Nat} {l : Lo} (s : UW X A m c l) : SAt X A m l := by
  obtain ⟨hB, q1, _, q3, q4⟩ := s.ex
  exact Tab.sat (l := l) (A := A) (n := m) (RowAt.tab q1 l.cl_wid (by decide)) ((ub_bd l hB q4).mono SK.mono q3)
theorem UW.mono {X Y : Hp} {A : Option Addr} {m c : Nat} {l : Lo} (x : X.le Y) (s : UW X A m c l) : UW Y A m c l :=
  ⟨s.len, let ⟨hB, a, b, c, d⟩ := s.ex; ⟨hB, a.mono x, b, Hp.le_trans c x, d⟩⟩
theorem own_end {h h' hB : Hp} {A : Option Addr} {n c : Nat} {p : Lo} (x : Cp UK h h' hB A n c p) : UW (h'.sub h) A n c p :=
  ⟨x.len.symm, hB, row_sub x.row fun g e => (x.fr g e).1, fun g e => (x.fr g e).2, Hp.le_sub x.leB x.out, (ub_bds p hB).2 x.bds⟩
theorem own35 : ∀ (N : Nat) (l : Lo), l.cnt < N → l.cnt ≤ 200000 → ∀ (A : Option Addr) (m cap : Nat) (h : Hp), SAt h A m l →
    Fn Try.prog 35 #[.slice A m cap] h fun v h' => h.le h' ∧ ∃ A' c' l', v = .slice A' m c' ∧ UW (h'.sub h) A' m c' l' ∧ l'.fo = l.fo
  | 0, l, hN, _ => absurd hN (Nat.not_lt_zero _)
  | N + 1, l, hN, hc0 => by
    intro A m cap h hs
    have hm : m ≤ 200000 := by have := hs.1; have := l.len_cnt; omega
    refine Fn.intro (args := [.slice A m cap]) mix16 Try.func35 rfl (by decide) Try.ntmps35 rfl (low35 rfl) rfl ?_
    conv => whnf
    refine .mkS [] (Nat × Option Addr × Nat × Lo × Lo) [3, 6, 7, 8] (fun (i, D, c, _, _) => [.v (.slice D i c), .v (.slice A m cap), .v (iv m), .v (iv i)]) (fun _ => [])
        (fun (i, D, c, p, r) h' => ∃ hB, Cp UK h h' hB D i c p ∧ Tl h A m i r ∧ r.cnt ≤ l.cnt ∧ p.fo.app r.fo = l.fo) (fun (i, _, _, _, _) => m - i) (0, none, 0, .nil, l) (fun _ => rfl) ⟨_, Cp.nil UK h, hs.tl, Nat.le_refl _, rfl⟩ rfl rfl rfl ?_
    rintro ⟨i, D, c, p, r⟩ e h' ⟨hB, cp, ht, hrl, he⟩
    refine .done ?_
    conv => whnf
    refine br_dec (fun h2 => ?_) (fun h2 => ?_)
    · cases r with
      | nil => have := ht.fin; omega
      | cons t w B m' cc b r =>
        obtain ⟨g, hA, hi, hc, hb, hr⟩ := ht.open
        simp only [Lo.cnt] at hrl
        conv => whnf
        refine .mk g hA (by omega) (by omega) ?_
        conv => whnf
        refine .hp (lcells t w B m' cc) rfl (by rw [Int.toNat_natCast]; exact fun j v hv => Hp.cell_le cp.le (hc j v hv)) ?_
        conv => whnf
        refine .done (.mk _ (own35 N b (by omega) (by omega) B m' cc h' (hb.mono cp.le)) ?_)
        rintro _ h2 ⟨l2, B', c2, b', rfl, hb', hbf⟩
        conv => whnf
        refine .abs 41 3 D i c _ (cp.row.mono l2) (.done (.old 2 _ (lcells t w B' m' c2) rfl rfl (lcells_one _ _ _ _ _) (by simp [maxLen]; omega) (by omega) fun D2 c3 hD2 => ?_))
        conv => whnf
        refine .ok (by omega) (by omega) ?_
        conv => whnf
        refine .pub 2 41 3 D2 (i + 1) c3 _ rfl fun h3 l3 hro hf => .done ⟨(i + 1, D2, c3, p.snoc t w B' m' c2 b', r), rfl, rfl, ⟨_, cp.step l2 t w hb'.uk l3 hro hf, hr, by omega, ?_⟩, by show m - (i + 1) < m - i; omega⟩
        rw [Lo.snoc_fo, hbf]
        exact he
    · conv => whnf
      cases r with
      | nil =>
        have := ht.fin
        subst this
        refine .done ⟨cp.le, D, c, p, rfl, own_end cp, ?_⟩
        rw [← he]
        exact (Fo.app_nil _).symm
      | cons => obtain ⟨g, hA, hi, _⟩ := ht.open; omega
theorem sameLoops13 : ∀ (N : Nat) (k : Lo), k.cnt < N → k.cnt ≤ 200000 → ∀ (l : Lo) (A D : Option Addr) (m n ca cd : Nat) (h : Hp), SAt h A m k → SAt h D n l →
    Fn Try.prog 13 #[.slice A m ca, .slice D n cd] h fun v h' => v = .bool (decide (k.fo = l.fo)) ∧ h' = h
  | 0, k, hN, _ => absurd hN (Nat.not_lt_zero _)
  | N + 1, k, hN, hc0 => by
    intro l A D m n ca cd h hs hd
    have hm : m ≤ 200000 := by have := hs.1; have := k.len_cnt; omega
    have hkl : k.fo.len = m := by rw [Lo.fo_len]; exact hs.1.symm
    have hll : l.fo.len = n := by rw [Lo.fo_len]; exact hd.1.symm
    refine Fn.intro (args := [.slice A m ca, .slice D n cd]) mix16 Try.func13 rfl (by decide) Try.ntmps13 rfl (low13 rfl) rfl ?_
    conv => whnf
    refine br_dec (fun h1 => ?_) (fun h1 => ?_)
    · conv => whnf
      refine .done ⟨?_, rfl⟩
      rw [decide_eq_false (fun q => by rw [q] at hkl; omega)]; rfl
    have hmn : m = n := by omega
    subst hmn
    conv => whnf
    refine .mk (Nat × Lo × Lo) [0, 1, 5] (fun (i, _, _) => [.v (.slice A m ca), .v (.slice D m cd), .v (iv i)]) (fun _ => [])
        (fun (i, q, r) h' => h' = h ∧ Tl h A m i q ∧ Tl h D m i r ∧ q.cnt ≤ k.cnt ∧ (k.fo = l.fo ↔ q.fo = r.fo)) (fun (i, _, _) => m - i) (0, k, l) (fun _ => rfl) ⟨rfl, hs.tl, hd.tl, Nat.le_refl _, Iff.rfl⟩ rfl rfl ?_
    rintro ⟨i, q, r⟩ e h' ⟨rfl, ht, hu, hql, hqr⟩
    conv => whnf
    refine br_dec (fun h2 => ?_) (fun h2 => ?_)
    · cases q with
      | nil => have := ht.fin; omega
      | cons t w B m' cc b q =>
        cases r with
        | nil => have := hu.fin; omega
        | cons t2 w2 B2 m2 cc2 b2 r =>
          obtain ⟨g, hA, hi, hc, hb, hq⟩ := ht.open
          obtain ⟨g2, hD, _, hc2, hb2, hr⟩ := hu.open
          simp only [Lo.cnt] at hql
          simp only [Lo.fo, Fo.cons.injEq] at hqr
          conv => whnf
          refine .mk g hA (by omega) (by omega) ?_
          conv => whnf
          refine .hp (iv t) (by rw [Int.toNat_natCast]; exact hc 0 _ rfl) ?_
          conv => whnf
          refine .mk g2 hD (by omega) (by omega) ?_
          conv => whnf
          refine .hp (iv t2) (by rw [Int.toNat_natCast]; exact hc2 0 _ rfl) ?_
          conv => whnf
          refine br_dec (fun h3 => ?_) (fun h3 => ?_)
          · conv => whnf
            refine .done ⟨?_, rfl⟩
            rw [decide_eq_false (fun q => h3 (hqr.1 q).1)]; rfl
          have h3 := Decidable.not_not.1 h3
          conv => whnf
          refine .mk g hA (by omega) (by omega) ?_
          conv => whnf
          refine .hp (iv w) (by rw [Int.toNat_natCast]; exact hc 1 _ rfl) ?_
          conv => whnf
          refine .mk g2 hD (by omega) (by omega) ?_
          conv => whnf
          refine .hp (iv w2) (by rw [Int.toNat_natCast]; exact hc2 1 _ rfl) ?_
          conv => whnf
          refine br_dec (fun h4 => ?_) (fun h4 => ?_)
          · conv => whnf
            refine .done ⟨?_, rfl⟩
            rw [decide_eq_false (fun q => h4 (hqr.1 q).2.1)]; rfl
          have h4 := Decidable.not_not.1 h4
          conv => whnf
          refine .mk g hA (by omega) (by omega) ?_
          conv => whnf
          refine .hp (.slice B m' cc) (by rw [Int.toNat_natCast]; exact hc 2 _ rfl) ?_
          conv => whnf
          refine .mk g2 hD (by omega) (by omega) ?_
          conv => whnf
          refine .hp (.slice B2 m2 cc2) (by rw [Int.toNat_natCast]; exact hc2 2 _ rfl) ?_
          conv => whnf
          refine .done (.mk _ (sameLoops13 N b (by omega) (by omega) b2 B B2 m' m2 cc cc2 h' hb hb2) ?_)
          rintro _ _ ⟨rfl, rfl⟩
          by_cases hbb : b.fo = b2.fo
          · rw [decide_eq_true hbb]
            conv => whnf
            refine .ok (by omega) (by omega) ?_
            conv => whnf
            exact ⟨(i + 1, q, r), rfl, rfl, ⟨rfl, hq, hr, by omega, hqr.trans ⟨fun x => x.2.2.2, fun x => ⟨h3, h4, hbb, x⟩⟩⟩, by show m - (i + 1) < m - i; omega⟩
          · rw [decide_eq_false hbb]
            conv => whnf
            refine .done ⟨?_, rfl⟩
            rw [decide_eq_false (fun x => hbb (hqr.1 x).2.2.1)]; rfl
    · conv => whnf
      cases q with
      | nil =>
        cases r with
        | nil =>
          refine .done ⟨?_, rfl⟩
          rw [decide_eq_true (hqr.2 rfl)]; rfl
        | cons => obtain ⟨g, hA, hi, _⟩ := hu.open; omega
      | cons => obtain ⟨g, hA, hi, _⟩ := ht.open; omega
end Go.Sx
