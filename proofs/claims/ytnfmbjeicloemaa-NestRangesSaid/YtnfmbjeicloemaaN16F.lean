/- Measuring a nest. Conditions: none. -/
import Derived.Test.YtnfmbjeicloemaaN16E
namespace Go.Sx
open Go.Proofs
abbrev sz (l : List Value) : Obj := .cells l.toArray 31 (0, 0)
theorem sz_cell (h : Hp) (b : Nat) (l : List Value) (j : Nat) {v : Value} (hv : l[j]? = some v) : (h.put b (sz l)).cell? ⟨b, j, none⟩ = some v := by
  unfold Hp.cell?; simp [Hp.put_same, hv]
theorem measure42 : ∀ (N : Nat) (l : Lo), l.cnt < N → l.cnt ≤ 200000 → ∀ (A : Option Addr) (m cap : Nat) (hF : Hp) (b a0 b0 c0 d0 dp : Nat), SAt hF A m l → hF b = none → dp ≤ c0 → a0 ≤ 9000000 → b0 ≤ 9000000 → dp + deep l.fo ≤ 9000000 → a0 + l.cnt ≤ 9000000 → b0 + l.cnt ≤ 9000000 →
    Fn Try.prog 42 #[.slice A m cap, iv dp, lptr b] (hF.put b (sz (sizeV a0 b0 c0 d0))) fun _ h' => h' = hF.put b (sz (sizeV (a0 + firs l.fo) (b0 + heads l.fo) (max c0 (dp + deep l.fo)) d0))
  | 0, l, hN, _ => absurd hN (Nat.not_lt_zero _)
  | N + 1, l, hN, hc0 => by
    intro A m cap hF bk a0 b0 c0 d0 dp hs hbk hdp ha hb00 hdd ha2 hb2
    have hm : m ≤ 200000 := by have := hs.1; have := l.len_cnt; omega
    refine Fn.intro (args := [.slice A m cap, iv dp, lptr bk]) mix16 Try.func42 rfl (by decide) Try.ntmps42 rfl (low42 rfl) rfl ?_
    conv => whnf
    refine .mk (Nat × Nat × Nat × Nat × Lo) [1, 2, 8, 9, 10] (fun (i, _, _, _, _) => [.v (iv dp), .v (lptr bk), .v (.slice A m cap), .v (iv m), .v (iv i)]) (fun _ => [])
        (fun (i, a, b, c, r) h' => h' = hF.put bk (sz (sizeV a b c d0)) ∧ Tl hF A m i r ∧ r.cnt ≤ l.cnt ∧ a + r.cnt ≤ 9000000 ∧ b + r.cnt ≤ 9000000 ∧ dp ≤ c ∧ dp + deep r.fo ≤ 9000000 ∧ a + firs r.fo = a0 + firs l.fo ∧ b + heads r.fo = b0 + heads l.fo ∧ max c (dp + deep r.fo) = max c0 (dp + deep l.fo)) (fun (i, _, _, _, _) => m - i) (0, a0, b0, c0, l) (fun _ => rfl) ⟨rfl, hs.tl, Nat.le_refl _, ha2, hb2, hdp, hdd, rfl, rfl, rfl⟩ rfl rfl ?_
    rintro ⟨i, a, hb', c, r⟩ e h' ⟨rfl, ht, hrl, u1, u2, u3, u4, e1, e2, e3⟩
    conv => whnf
    refine br_dec (fun h2 => ?_) (fun h2 => ?_)
    · cases r with
      | nil => have := ht.fin; omega
      | cons t w B m' cc b r =>
        obtain ⟨g, hA, hi, hc, hb, hr⟩ := ht.open
        simp only [Lo.cnt] at hrl u1 u2
        have hbm := hb.1
        simp only [Lo.fo, firs, heads, deep] at e1 e2 e3 u4
        obtain ⟨hh, hhd⟩ : ∃ hh : Nat, hh = if (1 : Int) < t then 1 else 0 := ⟨_, rfl⟩
        rw [← hhd] at e2
        have hlf := b.leaf_len
        have f1 := firs_cnt b.fo
        have f2 := heads_cnt b.fo
        rw [b.fo_cnt] at f1 f2
        have hmo : ∀ (cs : List Value) j v, (lcells t w B m' cc)[j]? = some v → (hF.put bk (sz cs)).cell? ((g.add (i * 3)).add j) = some v := fun cs j v hv => Hp.cell_le (Hp.le_put hbk) (hc j v hv)
        conv => whnf
        refine .mk g hA (by omega) (by omega) ?_
        conv => whnf
        refine .hp (lcells t w B m' cc) rfl (by rw [Int.toNat_natCast]; exact hmo _) ?_
        conv => whnf
        refine br_dec (fun h3 => ?_) (fun h3 => ?_)
        · rw [if_pos h3] at hhd
          subst hhd
          conv => whnf
          refine .hp (iv hb') (sz_cell hF bk _ 1 rfl) ?_
          conv => whnf
          refine .ok (by omega) (by omega) ?_
          conv => whnf
          refine .hp bk 1 31 (sizeV a hb' c d0) (sizeV a (hb' + 1) c d0) rfl (Hp.put_same _ _ _) rfl ?_
          rw [Hp.put_put]
          conv => whnf
          refine br_dec (fun h4 => ?_) (fun h4 => ?_)
          · rw [show b.fo.leaf = true by rw [hlf]; exact decide_eq_true (by omega)] at e1 e3 u4
            rw [leaf_nil (f := b.fo) (by rw [hlf]; exact decide_eq_true (by omega))] at e2
            simp only [cond_true, heads] at e1 e2 e3 u4
            conv => whnf
            refine .hp (iv a) (sz_cell hF bk _ 0 rfl) ?_
            conv => whnf
            refine .ok (by omega) (by omega) ?_
            conv => whnf
            refine .hp bk 0 31 (sizeV a (hb' + 1) c d0) (sizeV (a + 1) (hb' + 1) c d0) rfl (Hp.put_same _ _ _) rfl ?_
            rw [Hp.put_put]
            conv => whnf
            refine .ok (by omega) (by omega) ?_
            conv => whnf
            exact ⟨(i + 1, a + 1, hb' + 1, c, r), rfl, rfl, ⟨rfl, hr, by omega, by omega, by omega, by omega, by omega, by omega, by omega, by omega⟩, by show m - (i + 1) < m - i; omega⟩
          · have hlf2 : b.fo.leaf = false := by rw [hlf]; exact decide_eq_false (by omega)
            rw [hlf2] at e1 e3 u4
            simp only [cond_false] at e1 e2 e3 u4
            conv => whnf
            refine .hp (iv c) (sz_cell hF bk _ 2 rfl) ?_
            conv => whnf
            refine .ok (by omega) (by omega) ?_
            conv => whnf
            refine .hp bk 2 31 (sizeV a (hb' + 1) c d0) (sizeV a (hb' + 1) (max c (dp + 1)) d0) rfl (Hp.put_same _ _ _) ?_ ?_
            · show _ = some [iv a, _, iv ((max c (dp + 1) : Nat) : Int), _]
              rw [← imax]
              rfl
            rw [Hp.put_put]
            conv => whnf
            refine .ok (by omega) (by omega) ?_
            conv => whnf
            refine .done (.mk _ (measure42 N b (by omega) (by omega) B m' cc hF bk a (hb' + 1) (max c (dp + 1)) d0 (dp + 1) hb hbk (by omega) (by omega) (by omega) (by omega) (by omega) (by omega)) ?_)
            rintro _ _ rfl
            conv => whnf
            refine .ok (by omega) (by omega) ?_
            conv => whnf
            exact ⟨(i + 1, a + firs b.fo, hb' + 1 + heads b.fo, max (max c (dp + 1)) (dp + 1 + deep b.fo), r), rfl, rfl, ⟨rfl, hr, by omega, by omega, by omega, by omega, by omega, by omega, by omega, by omega⟩, by show m - (i + 1) < m - i; omega⟩
        · rw [if_neg h3] at hhd
          subst hhd
          conv => whnf
          refine br_dec (fun h4 => ?_) (fun h4 => ?_)
          · rw [show b.fo.leaf = true by rw [hlf]; exact decide_eq_true (by omega)] at e1 e3 u4
            rw [leaf_nil (f := b.fo) (by rw [hlf]; exact decide_eq_true (by omega))] at e2
            simp only [cond_true, heads] at e1 e2 e3 u4
            conv => whnf
            refine .hp (iv a) (sz_cell hF bk _ 0 rfl) ?_
            conv => whnf
            refine .ok (by omega) (by omega) ?_
            conv => whnf
            refine .hp bk 0 31 (sizeV a hb' c d0) (sizeV (a + 1) hb' c d0) rfl (Hp.put_same _ _ _) rfl ?_
            rw [Hp.put_put]
            conv => whnf
            refine .ok (by omega) (by omega) ?_
            conv => whnf
            exact ⟨(i + 1, a + 1, hb', c, r), rfl, rfl, ⟨rfl, hr, by omega, by omega, by omega, by omega, by omega, by omega, by omega, by omega⟩, by show m - (i + 1) < m - i; omega⟩
          · have hlf2 : b.fo.leaf = false := by rw [hlf]; exact decide_eq_false (by omega)
            rw [hlf2] at e1 e3 u4
            simp only [cond_false] at e1 e2 e3 u4
            conv => whnf
            refine .hp (iv c) (sz_cell hF bk _ 2 rfl) ?_
            conv => whnf
            refine .ok (by omega) (by omega) ?_
            conv => whnf
            refine .hp bk 2 31 (sizeV a hb' c d0) (sizeV a hb' (max c (dp + 1)) d0) rfl (Hp.put_same _ _ _) ?_ ?_
            · show _ = some [iv a, _, iv ((max c (dp + 1) : Nat) : Int), _]
              rw [← imax]
              rfl
            rw [Hp.put_put]
            conv => whnf
            refine .ok (by omega) (by omega) ?_
            conv => whnf
            refine .done (.mk _ (measure42 N b (by omega) (by omega) B m' cc hF bk a hb' (max c (dp + 1)) d0 (dp + 1) hb hbk (by omega) (by omega) (by omega) (by omega) (by omega) (by omega)) ?_)
            rintro _ _ rfl
            conv => whnf
            refine .ok (by omega) (by omega) ?_
            conv => whnf
            exact ⟨(i + 1, a + firs b.fo, hb' + heads b.fo, max (max c (dp + 1)) (dp + 1 + deep b.fo), r), rfl, rfl, ⟨rfl, hr, by omega, by omega, by omega, by omega, by omega, by omega, by omega, by omega⟩, by show m - (i + 1) < m - i; omega⟩
    · conv => whnf
      cases r with
      | nil =>
        simp only [Lo.fo, firs, heads, deep] at e1 e2 e3
        refine .done ?_
        rw [← e1, ← e2, ← e3, show max c (dp + 0) = c by omega]
        rfl
      | cons => obtain ⟨g, hA, hi, _⟩ := ht.open; omega
/-- what measuring answers -/
def sizeF (f : Fo) : List Value := if checkF f = 0 then sizeV (firs f) (heads f) (deep f) (tot f) else sizeV 0 0 0 0
theorem checkF_ok {f : Fo} (h : checkF f = 0) : (findF f 0 0).1 = 0 ∧ tot f ≤ 2048 := by
  unfold checkF at h
  split at h
  · rename_i h1; exact absurd h h1
  · rename_i h1
    split at h
    · cases h
    · exact ⟨Decidable.of_not_not h1, by omega⟩
theorem measure20 (l : Lo) (hc : l.cnt ≤ 200000) (A : Option Addr) (m cap : Nat) (h : Hp) (hs : SAt h A m l) :
    Fn Try.prog 20 #[.slice A m cap] h fun v h' => h.le h' ∧ v = .tuple #[.agg (sizeF l.fo).toArray, iv (checkF l.fo)] := by
  have b3 := deep_cnt l.fo
  rw [l.fo_cnt] at b3
  refine Fn.intro (args := [.slice A m cap]) mix16 Try.func20 rfl (by decide) Try.ntmps20 rfl (low20 rfl) rfl ?_
  conv => whnf
  refine .done (.mk _ (check17 l hc A m cap h hs) ?_)
  rintro _ h1 ⟨hl1, rfl⟩
  conv => whnf
  refine br_dec (fun h2 => ?_) (fun h2 => ?_)
  · conv => whnf
    refine .done ⟨hl1, ?_⟩
    unfold sizeF
    rw [if_neg h2]
    rfl
  · have h2 : checkF l.fo = 0 := Decidable.of_not_not h2
    obtain ⟨k1, k2⟩ := checkF_ok h2
    conv => whnf
    refine .done (.mk _ (total39 _ l (Nat.lt_succ_self _) hc (findF_pos _ _ _ k1) A m cap _ (hs.mono hl1)) ?_)
    rintro _ h3 ⟨rfl, rfl⟩
    rw [show min (tot l.fo) 2049 = tot l.fo by omega]
    conv => whnf
    refine .mk fun b hb => ?_
    conv => whnf
    refine .done (.mk _ (measure42 _ l (Nat.lt_succ_self _) hc A m cap h3 b 0 0 0 (tot l.fo) 0 (hs.mono hl1) hb (by omega) (by omega) (by omega) (by omega) (by omega) (by omega)) ?_)
    rintro _ _ rfl
    conv => whnf
    refine .hp (sizeV (0 + firs l.fo) (0 + heads l.fo) (max 0 (0 + deep l.fo)) (tot l.fo)) rfl (fun j v hv => by rw [add_lit, show 0 + j = j from Nat.zero_add j]; exact sz_cell _ _ _ j hv) ?_
    conv => whnf
    refine .done ⟨Hp.le_trans hl1 (Hp.le_put hb), ?_⟩
    unfold sizeF
    rw [if_pos h2, h2, show 0 + firs l.fo = firs l.fo by omega, show 0 + heads l.fo = heads l.fo by omega, show max 0 (0 + deep l.fo) = deep l.fo by omega]
    rfl
theorem measure21 (l : Lo) (hc : l.cnt ≤ 200000) (A : Option Addr) (m cap : Nat) (h : Hp) (hs : SAt h A m l) :
    Fn Try.prog 21 #[.slice A m cap] h fun v h' => h' = h ∧ v = .tuple #[.agg (sizeF l.fo).toArray, iv (checkF l.fo)] := by
  refine Fn.intro (args := [.slice A m cap]) mix16 Try.func21 rfl (by decide) Try.ntmps21 rfl (low21 rfl) rfl ?_
  conv => whnf
  refine .done (.mk _ (check18 l hc A m cap h hs) ?_)
  rintro _ h1 ⟨rfl, rfl⟩
  conv => whnf
  refine br_dec (fun h2 => ?_) (fun h2 => ?_)
  · conv => whnf
    refine .done ⟨rfl, ?_⟩
    unfold sizeF
    rw [if_neg h2]
    rfl
  · have h2 : checkF l.fo = 0 := Decidable.of_not_not h2
    obtain ⟨k1, k2⟩ := checkF_ok h2
    conv => whnf
    refine .done (.mk _ (size43 _ l (Nat.lt_succ_self _) hc (findF_pos _ _ _ k1) k2 A m cap _ hs) ?_)
    rintro _ h3 ⟨rfl, rfl⟩
    conv => whnf
    refine .done ⟨rfl, ?_⟩
    unfold sizeF
    rw [if_pos h2, h2]
    rfl
end Go.Sx
