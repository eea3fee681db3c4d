/- Checking a nest: both checks. Conditions: none. -/
import Derived.Test.YtnfmbjeicloemaaN16C
namespace Go.Sx
open Go.Proofs
theorem div_lt {x q : Nat} (hx : 1 ≤ x) : (2048 : Int).tdiv (x : Int) = ((2048 / x : Nat) : Int) ∧ (2048 / x < q ↔ 2048 < q * x) ∧ 2048 / x ≤ 2048 := by
  refine ⟨(Int.ofNat_tdiv 2048 x).symm, Nat.div_lt_iff_lt_mul hx, Nat.div_le_self _ _⟩
theorem total41 : ∀ (N : Nat) (l : Lo), l.cnt < N → l.cnt ≤ 200000 → Pos l.fo → ∀ (A : Option Addr) (m cap : Nat) (h : Hp), SAt h A m l →
    Fn Try.prog 41 #[.slice A m cap] h fun v h' => h' = h ∧ v = iv (min (tot l.fo) 2049 : Nat)
  | 0, l, hN, _ => absurd hN (Nat.not_lt_zero _)
  | N + 1, l, hN, hc0 => by
    intro hpos A m cap h hs
    have hm : m ≤ 200000 := by have := hs.1; have := l.len_cnt; omega
    refine Fn.intro (args := [.slice A m cap]) mix16 Try.func41 rfl (by decide) Try.ntmps41 rfl (low41 rfl) rfl ?_
    conv => whnf
    refine .mk (Nat × Nat × Lo) [0, 3, 4] (fun (i, s, _) => [.v (.slice A m cap), .v (iv s), .v (iv i)]) (fun _ => [])
        (fun (i, s, r) h' => h' = h ∧ Tl h A m i r ∧ s ≤ 2048 ∧ r.cnt ≤ l.cnt ∧ Pos r.fo ∧ s + tot r.fo = tot l.fo) (fun (i, _, _) => m - i) (0, 0, l) (fun _ => rfl) ⟨rfl, hs.tl, Nat.zero_le _, Nat.le_refl _, hpos, by omega⟩ rfl rfl ?_
    rintro ⟨i, s, r⟩ e h' ⟨rfl, ht, hq, hrl, hp, he⟩
    conv => whnf
    refine br_dec (fun h2 => ?_) (fun h2 => ?_)
    · cases r with
      | nil => have := ht.fin; omega
      | cons t w B m' c b r =>
        obtain ⟨g, hA, hi, hc, hb, hr⟩ := ht.open
        simp only [Lo.cnt] at hrl
        simp only [Lo.fo] at hp
        obtain ⟨hp1, hp2, hp3⟩ := hp
        obtain ⟨q, rfl⟩ : ∃ q : Nat, t = q := ⟨t.toNat, by omega⟩
        have hins := ins_pos hp2
        have he2 : s + (q * ins b.fo + tot r.fo) = tot l.fo := by
          have := tot_cons q w b.fo r.fo
          simp only [Int.toNat_natCast] at this
          rw [← this]; exact he
        have hbm := hb.1
        have c0 : h'.cell? ((g.add (i * 3)).add 0) = some (iv q) := hc 0 _ rfl
        have c2 : h'.cell? ((g.add (i * 3)).add 2) = some (.slice B m' c) := hc 2 _ rfl
        conv => whnf
        refine .mk g hA (by omega) (by omega) ?_
        conv => whnf
        refine .hp _ (by rw [Int.toNat_natCast]; exact c2) ?_
        conv => whnf
        refine br_dec (fun h3 => ?_) (fun h3 => ?_)
        · have hlf : b.fo.leaf = false := by rw [b.leaf_len]; exact decide_eq_false (by omega)
          have hie : ins b.fo = tot b.fo := by unfold ins; rw [hlf]; rfl
          conv => whnf
          refine .mk g hA (by omega) (by omega) ?_
          conv => whnf
          refine .hp _ (by rw [Int.toNat_natCast]; exact c2) ?_
          conv => whnf
          refine .done (.mk _ (total41 N b (by omega) (by omega) hp2 B m' c h' hb) ?_)
          rintro _ h2 ⟨rfl, rfl⟩
          conv => whnf
          refine br_dec (fun h4 => ?_) (fun h4 => ?_)
          · conv => whnf
            refine .done ⟨rfl, ?_⟩
            have : 1 * ins b.fo ≤ q * ins b.fo := Nat.mul_le_mul_right _ (by omega)
            rw [show min (tot l.fo) 2049 = 2049 by omega]
            rfl
          have hmin : min (tot b.fo) 2049 = ins b.fo := by omega
          rw [hmin]
          obtain ⟨D, d1, d2, d3⟩ : ∃ D : Nat, (2048 : Int).tdiv ((ins b.fo : Nat) : Int) = (D : Int) ∧ (D < q ↔ 2048 < q * ins b.fo) ∧ D ≤ 2048 := ⟨_, div_lt hins⟩
          conv => whnf
          refine .mk g hA (by omega) (by omega) ?_
          conv => whnf
          refine .hp _ (by rw [Int.toNat_natCast]; exact c0) ?_
          conv => whnf
          refine .mk (by omega) (.ok (by rw [d1]; omega) (by rw [d1]; omega) ?_)
          rw [d1]
          conv => whnf
          refine br_dec (fun h5 => ?_) (fun h5 => ?_)
          · conv => whnf
            refine .done ⟨rfl, ?_⟩
            have : 2048 < q * ins b.fo := d2.1 (by omega)
            rw [show min (tot l.fo) 2049 = 2049 by omega]
            rfl
          have hb2 : q * ins b.fo ≤ 2048 := by
            have : ¬ (2048 < q * ins b.fo) := fun hh => absurd (d2.2 hh) (by omega)
            omega
          have hz : (q : Int) * ((ins b.fo : Nat) : Int) = ((q * ins b.fo : Nat) : Int) := (Int.natCast_mul _ _).symm
          conv => whnf
          refine .mk g hA (by omega) (by omega) ?_
          conv => whnf
          refine .hp _ (by rw [Int.toNat_natCast]; exact c0) ?_
          conv => whnf
          refine .ok (by rw [hz]; omega) (by rw [hz]; omega) ?_
          rw [hz]
          conv => whnf
          refine .ok (by omega) (by omega) ?_
          conv => whnf
          refine br_dec (fun h6 => ?_) (fun h6 => ?_)
          · conv => whnf
            refine .done ⟨rfl, ?_⟩
            rw [show min (tot l.fo) 2049 = 2049 by omega]
            rfl
          · conv => whnf
            refine .ok (by omega) (by omega) ?_
            conv => whnf
            exact ⟨(i + 1, s + q * ins b.fo, r), rfl, rfl, ⟨rfl, hr, by omega, by omega, hp3, by omega⟩, by show m - (i + 1) < m - i; omega⟩
        · have hlf : b.fo.leaf = true := by rw [b.leaf_len]; exact decide_eq_true (by omega)
          have hie : ins b.fo = 1 := by unfold ins; rw [hlf]; rfl
          rw [hie] at he2
          conv => whnf
          refine .mk g hA (by omega) (by omega) ?_
          conv => whnf
          refine .hp _ (by rw [Int.toNat_natCast]; exact c0) ?_
          conv => whnf
          refine .mk (by omega) (.ok (by decide) (by decide) ?_)
          conv => whnf
          refine br_dec (fun h4 => ?_) (fun h4 => ?_)
          · have h4 : (2048 : Int) < q := h4
            conv => whnf
            refine .done ⟨rfl, ?_⟩
            rw [show min (tot l.fo) 2049 = 2049 by omega]
            rfl
          have h4 : ¬ (2048 : Int) < q := h4
          conv => whnf
          refine .mk g hA (by omega) (by omega) ?_
          conv => whnf
          refine .hp _ (by rw [Int.toNat_natCast]; exact c0) ?_
          conv => whnf
          refine .ok (by omega) (by omega) ?_
          conv => whnf
          refine .ok (by omega) (by omega) ?_
          conv => whnf
          refine br_dec (fun h6 => ?_) (fun h6 => ?_)
          · conv => whnf
            refine .done ⟨rfl, ?_⟩
            rw [show min (tot l.fo) 2049 = 2049 by omega]
            rfl
          · conv => whnf
            refine .ok (by omega) (by omega) ?_
            conv => whnf
            refine ⟨(i + 1, s + q, r), ?_, rfl, ⟨rfl, hr, by omega, by omega, hp3, by omega⟩, by show m - (i + 1) < m - i; omega⟩
            rw [show ((s : Int) + (q : Int) * 1) = ((s + q : Nat) : Int) by omega]
            rfl
    · conv => whnf
      cases r with
      | nil =>
        refine .done ⟨rfl, ?_⟩
        simp only [Lo.fo, tot] at he
        rw [← he, show min (s + 0) 2049 = s by omega]
        rfl
      | cons => obtain ⟨g, hA, hi, _⟩ := ht.open; omega
theorem find40 : ∀ (N : Nat) (l : Lo), l.cnt < N → l.cnt ≤ 200000 → ∀ (A : Option Addr) (m cap d k : Nat) (h : Hp), SAt h A m l → d ≤ 16 → k ≤ 2048 →
    Fn Try.prog 40 #[.slice A m cap, iv d, iv k] h fun v h' => h' = h ∧ v = .tuple #[iv (findF l.fo d k).1, iv (findF l.fo d k).2]
  | 0, l, hN, _ => absurd hN (Nat.not_lt_zero _)
  | N + 1, l, hN, hc0 => by
    intro A m cap d k h hs hd hk
    have hm : m ≤ 200000 := by have := hs.1; have := l.len_cnt; omega
    refine Fn.intro (args := [.slice A m cap, iv d, iv k]) mix16 Try.func40 rfl (by decide) Try.ntmps40 rfl (low40 rfl) rfl ?_
    conv => whnf
    refine .mk (Nat × Nat × Lo) [0, 1, 2, 8] (fun (i, q, _) => [.v (.slice A m cap), .v (iv d), .v (iv q), .v (iv i)]) (fun _ => [])
        (fun (i, q, r) h' => h' = h ∧ Tl h A m i r ∧ q ≤ 2048 ∧ r.cnt ≤ l.cnt ∧ findF l.fo d k = findF r.fo d q) (fun (i, _, _) => m - i) (0, k, l) (fun _ => rfl) ⟨rfl, hs.tl, hk, Nat.le_refl _, rfl⟩ rfl rfl ?_
    rintro ⟨i, q, r⟩ e h' ⟨rfl, ht, hq, hrl, he⟩
    conv => whnf
    refine br_dec (fun h2 => ?_) (fun h2 => ?_)
    · cases r with
      | nil => have := ht.fin; omega
      | cons t w B m' c b r =>
        obtain ⟨g, hA, hi, hc, hb, hr⟩ := ht.open
        simp only [Lo.cnt] at hrl
        simp only [Lo.fo, findF] at he
        have hbm := hb.1
        have hlf := b.leaf_len
        -- what is answered where one() is known
        have stop : ∀ {z : Int}, z ≠ 0 → oneF t w b.fo.leaf d q (findF b.fo (d + 1) q) = (z, q) → findF l.fo d k = (z, q) := fun hz h1 => by
          rw [he, h1, if_neg hz]
        have goon : ∀ {q' : Nat}, oneF t w b.fo.leaf d q (findF b.fo (d + 1) q) = (0, q') → findF l.fo d k = findF r.fo d q' := fun h1 => by
          rw [he, h1, if_pos rfl]
        conv => whnf
        refine .mk g hA (by omega) (by omega) ?_
        conv => whnf
        refine .hp (lcells t w B m' c) rfl (by rw [Int.toNat_natCast]; exact hc) ?_
        conv => whnf
        refine br_dec (fun h3 => ?_) (fun h3 => ?_)
        · conv => whnf
          refine .done ⟨rfl, ?_⟩
          rw [stop (z := 5) (by decide) (by unfold oneF; rw [if_pos (by omega)])]
          rfl
        conv => whnf
        refine br_dec (fun h4 => ?_) (fun h4 => ?_)
        · have hlf2 : b.fo.leaf = false := by rw [hlf]; exact decide_eq_false (by omega)
          conv => whnf
          refine .ok (by omega) (by omega) ?_
          conv => whnf
          refine br_dec (fun h5 => ?_) (fun h5 => ?_)
          · conv => whnf
            refine .done ⟨rfl, ?_⟩
            rw [stop (z := 161) (by decide) (by unfold oneF; rw [if_neg (by omega), if_pos ⟨hlf2, by omega⟩])]
            rfl
          conv => whnf
          refine br_dec (fun h6 => ?_) (fun h6 => ?_)
          · conv => whnf
            refine .done ⟨rfl, ?_⟩
            rw [stop (z := 160) (by decide) (by unfold oneF; rw [if_neg (by omega), if_neg (by omega), if_pos h6])]
            rfl
          conv => whnf
          refine br_dec (fun h7 => absurd h7 (by omega)) (fun h7 => ?_)
          conv => whnf
          refine br_dec (fun h8 => ?_) (fun h8 => ?_)
          · conv => whnf
            refine .done ⟨rfl, ?_⟩
            rw [stop (z := 162) (by decide) (by unfold oneF; rw [if_neg (by omega), if_neg (by omega), if_neg h6, if_neg (by rw [hlf2]; simp), if_pos h8])]
            rfl
          have honeF : oneF t w b.fo.leaf d q (findF b.fo (d + 1) q) = findF b.fo (d + 1) q := by
            unfold oneF; rw [if_neg (by omega), if_neg (by omega), if_neg h6, if_neg (by rw [hlf2]; simp), if_neg h8]
          conv => whnf
          refine .ok (by omega) (by omega) ?_
          conv => whnf
          refine .done (.mk _ (find40 N b (by omega) (by omega) B m' c (d + 1) q h' hb (by omega) hq) ?_)
          rintro _ h2 ⟨rfl, rfl⟩
          conv => whnf
          refine br_dec (fun h9 => ?_) (fun h9 => ?_)
          · conv => whnf
            refine .done ⟨rfl, ?_⟩
            rw [he, honeF, if_neg h9]
            rfl
          · have h9 : (findF b.fo (d + 1) q).1 = 0 := by omega
            conv => whnf
            refine .ok (by omega) (by omega) ?_
            conv => whnf
            exact ⟨(i + 1, (findF b.fo (d + 1) q).2, r), rfl, rfl, ⟨rfl, hr, findF_le _ _ _ hq, by omega, goon (by rw [honeF]; exact Prod.ext h9 rfl)⟩, by show m - (i + 1) < m - i; omega⟩
        · have hlf2 : b.fo.leaf = true := by rw [hlf]; exact decide_eq_true (by omega)
          conv => whnf
          refine br_dec (fun h6 => ?_) (fun h6 => ?_)
          · conv => whnf
            refine .done ⟨rfl, ?_⟩
            rw [stop (z := 160) (by decide) (by unfold oneF; rw [if_neg (by omega), if_neg (by rw [hlf2]; simp), if_pos h6])]
            rfl
          conv => whnf
          refine br_dec (fun h7 => ?_) (fun h7 => absurd h7 (by omega))
          have node : w < 0 ∨ 32 ≤ w → findF l.fo d k = (100, q) := fun hh => stop (by decide) (by unfold oneF; rw [if_neg (by omega), if_neg (by rw [hlf2]; simp), if_neg h6, if_pos hlf2, if_pos hh])
          conv => whnf
          refine br_dec (fun h8 => ?_) (fun h8 => ?_)
          · conv => whnf
            refine .done ⟨rfl, ?_⟩
            rw [node (.inl h8)]
            rfl
          conv => whnf
          refine br_dec (fun h9 => ?_) (fun h9 => ?_)
          · conv => whnf
            refine .done ⟨rfl, ?_⟩
            rw [node (.inr h9)]
            rfl
          conv => whnf
          refine .ok (by omega) (by omega) ?_
          conv => whnf
          refine .ok (by omega) (by omega) ?_
          conv => whnf
          exact ⟨(i + 1, q + 1, r), rfl, rfl, ⟨rfl, hr, by omega, by omega, goon (by unfold oneF; rw [if_neg (by omega), if_neg (by rw [hlf2]; simp), if_neg h6, if_pos hlf2, if_neg (by omega)])⟩, by show m - (i + 1) < m - i; omega⟩
    · conv => whnf
      cases r with
      | nil =>
        refine .done ⟨rfl, ?_⟩
        rw [he]
        rfl
      | cons => obtain ⟨g, hA, hi, _⟩ := ht.open; omega
/-- what is wrong with a nest -/
def checkF (f : Fo) : Int := if (findF f 0 0).1 ≠ 0 then (findF f 0 0).1 else if 2048 < tot f then 5 else 0
theorem check17 (l : Lo) (hc : l.cnt ≤ 200000) (A : Option Addr) (m cap : Nat) (h : Hp) (hs : SAt h A m l) :
    Fn Try.prog 17 #[.slice A m cap] h fun v h' => h.le h' ∧ v = iv (checkF l.fo) := by
  refine Fn.intro (args := [.slice A m cap]) mix16 Try.func17 rfl (by decide) Try.ntmps17 rfl (low17 rfl) rfl ?_
  conv => whnf
  refine .mk fun b hb => ?_
  conv => whnf
  refine .done (.mk _ (row38 _ l (Nat.lt_succ_self _) hc A m cap 0 0 b h hs hb (by omega) (by omega)) ?_)
  rintro _ h' ⟨rfl, rfl⟩
  have hle : h.le (h.put b (ck (findF l.fo 0 0).2)) := Hp.le_put hb
  conv => whnf
  refine br_dec (fun h1 => ?_) (fun h1 => ?_)
  · conv => whnf
    refine .done ⟨hle, ?_⟩
    unfold checkF
    rw [if_pos h1]
    rfl
  · have h1' : ¬ (findF l.fo 0 0).1 ≠ 0 := h1
    conv => whnf
    refine .done (.mk _ (total39 _ l (Nat.lt_succ_self _) hc (findF_pos _ _ _ (Decidable.of_not_not h1')) A m cap _ (hs.mono hle)) ?_)
    rintro _ h' ⟨rfl, rfl⟩
    conv => whnf
    refine br_dec (fun h2 => ?_) (fun h2 => ?_)
    · conv => whnf
      refine .done ⟨hle, ?_⟩
      unfold checkF
      rw [if_neg h1', if_pos (by omega)]
      rfl
    · conv => whnf
      refine .done ⟨hle, ?_⟩
      unfold checkF
      rw [if_neg h1', if_neg (by omega)]
      rfl
theorem check18 (l : Lo) (hc : l.cnt ≤ 200000) (A : Option Addr) (m cap : Nat) (h : Hp) (hs : SAt h A m l) :
    Fn Try.prog 18 #[.slice A m cap] h fun v h' => h' = h ∧ v = iv (checkF l.fo) := by
  refine Fn.intro (args := [.slice A m cap]) mix16 Try.func18 rfl (by decide) Try.ntmps18 rfl (low18 rfl) rfl ?_
  conv => whnf
  refine .done (.mk _ (find40 _ l (Nat.lt_succ_self _) hc A m cap 0 0 h hs (by omega) (by omega)) ?_)
  rintro _ h' ⟨rfl, rfl⟩
  conv => whnf
  refine br_dec (fun h1 => ?_) (fun h1 => ?_)
  · conv => whnf
    refine .done ⟨rfl, ?_⟩
    unfold checkF
    rw [if_pos h1]
    rfl
  · have h1' : ¬ (findF l.fo 0 0).1 ≠ 0 := h1
    conv => whnf
    refine .done (.mk _ (total41 _ l (Nat.lt_succ_self _) hc (findF_pos _ _ _ (Decidable.of_not_not h1')) A m cap _ hs) ?_)
    rintro _ h' ⟨rfl, rfl⟩
    conv => whnf
    refine br_dec (fun h2 => ?_) (fun h2 => ?_)
    · conv => whnf
      refine .done ⟨rfl, ?_⟩
      unfold checkF
      rw [if_neg h1', if_pos (by omega)]
      rfl
    · conv => whnf
      refine .done ⟨rfl, ?_⟩
      unfold checkF
      rw [if_neg h1', if_neg (by omega)]
      rfl
end Go.Sx
