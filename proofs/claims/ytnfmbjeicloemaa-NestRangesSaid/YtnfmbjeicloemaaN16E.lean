/- How great a nest is. Conditions: none. -/
import Derived.Test.YtnfmbjeicloemaaN16D
namespace Go.Sx
open Go.Proofs
/-- leaves -/
def firs : Fo → Nat
  | .nil => 0
  | .cons _ _ b r => (bif b.leaf then 1 else firs b) + firs r
def heads : Fo → Nat
  | .nil => 0
  | .cons t _ b r => (if 1 < t then 1 else 0) + heads b + heads r
def deep : Fo → Nat
  | .nil => 0
  | .cons _ _ b r => max (bif b.leaf then 0 else deep b + 1) (deep r)
theorem firs_cnt : ∀ f : Fo, firs f ≤ f.cnt
  | .nil => Nat.le_refl _
  | .cons _ _ b r => by
    have h1 := firs_cnt b
    have h2 := firs_cnt r
    simp only [firs, Fo.cnt]
    cases b.leaf <;> simp <;> omega
theorem heads_cnt : ∀ f : Fo, heads f ≤ f.cnt
  | .nil => Nat.le_refl _
  | .cons t _ b r => by
    have h1 := heads_cnt b
    have h2 := heads_cnt r
    simp only [heads, Fo.cnt]
    split <;> omega
theorem deep_cnt : ∀ f : Fo, deep f ≤ f.cnt
  | .nil => Nat.le_refl _
  | .cons _ _ b r => by
    have h1 := deep_cnt b
    have h2 := deep_cnt r
    simp only [deep, Fo.cnt]
    cases b.leaf <;> simp <;> omega
theorem leaf_nil {f : Fo} (h : f.leaf = true) : f = .nil := by
  cases f with
  | nil => rfl
  | cons => simp [Fo.leaf] at h
def sizeV (a b c d : Nat) : List Value := [iv a, iv b, iv c, iv d]
theorem imax (a b : Nat) : max (a : Int) (b : Int) = ((max a b : Nat) : Int) := by omega
theorem size43 : ∀ (N : Nat) (l : Lo), l.cnt < N → l.cnt ≤ 200000 → Pos l.fo → tot l.fo ≤ 2048 → ∀ (A : Option Addr) (m cap : Nat) (h : Hp), SAt h A m l →
    Fn Try.prog 43 #[.slice A m cap] h fun v h' => h' = h ∧ v = .agg (sizeV (firs l.fo) (heads l.fo) (deep l.fo) (tot l.fo)).toArray
  | 0, l, hN, _ => absurd hN (Nat.not_lt_zero _)
  | N + 1, l, hN, hc0 => by
    intro hpos htot A m cap h hs
    have hm : m ≤ 200000 := by have := hs.1; have := l.len_cnt; omega
    have b1 := firs_cnt l.fo
    have b2 := heads_cnt l.fo
    have b3 := deep_cnt l.fo
    rw [l.fo_cnt] at b1 b2 b3
    refine Fn.intro (args := [.slice A m cap]) mix16 Try.func43 rfl (by decide) Try.ntmps43 rfl (low43 rfl) rfl ?_
    conv => whnf
    refine .mk (Nat × Nat × Nat × Nat × Nat × Lo) [0, 2, 3, 4] (fun (i, _, _, _, _, _) => [.v (.slice A m cap), .p 0 0, .p 1 0, .v (iv i)]) (fun (_, a, b, c, d, _) => [.own ((sizeV 0 0 0 0).map .v) 31, .own ((sizeV a b c d).map .v) 31])
        (fun (i, a, b, c, d, r) h' => h' = h ∧ Tl h A m i r ∧ r.cnt ≤ l.cnt ∧ Pos r.fo ∧ a + firs r.fo = firs l.fo ∧ b + heads r.fo = heads l.fo ∧ max c (deep r.fo) = deep l.fo ∧ d + tot r.fo = tot l.fo) (fun (i, _, _, _, _, _) => m - i) (0, 0, 0, 0, 0, l) (fun _ => rfl) ⟨rfl, hs.tl, Nat.le_refl _, hpos, by omega, by omega, by omega, by omega⟩ rfl rfl ?_
    rintro ⟨i, a, hb', c, d, r⟩ e h' ⟨rfl, ht, hrl, hp, e1, e2, e3, e4⟩
    conv => whnf
    refine br_dec (fun h2 => ?_) (fun h2 => ?_)
    · cases r with
      | nil => have := ht.fin; omega
      | cons t w B m' cc b r =>
        obtain ⟨g, hA, hi, hc, hb, hr⟩ := ht.open
        simp only [Lo.cnt] at hrl
        simp only [Lo.fo] at hp
        obtain ⟨hp1, hp2, hp3⟩ := hp
        obtain ⟨q, rfl⟩ : ∃ q : Nat, t = q := ⟨t.toNat, by omega⟩
        have hins := ins_pos hp2
        have e4 : d + (q * ins b.fo + tot r.fo) = tot l.fo := by
          have := tot_cons q w b.fo r.fo
          simp only [Int.toNat_natCast] at this
          rw [← this]; exact e4
        have hbm := hb.1
        simp only [Lo.fo, firs, heads, deep] at e1 e2 e3
        obtain ⟨hh, hhd⟩ : ∃ hh : Nat, hh = if (1 : Int) < (q : Int) then 1 else 0 := ⟨_, rfl⟩
        rw [← hhd] at e2
        have q1 : q * 1 ≤ q * ins b.fo := Nat.mul_le_mul_left _ hins
        have q2 : 1 * ins b.fo ≤ q * ins b.fo := Nat.mul_le_mul_right _ (by omega)
        have hlf := b.leaf_len
        conv => whnf
        refine .mk g hA (by omega) (by omega) ?_
        conv => whnf
        refine .hp (lcells q w B m' cc) rfl (by rw [Int.toNat_natCast]; exact hc) ?_
        conv => whnf
        refine br_dec (fun h3 => ?_) (fun h3 => ?_)
        · rw [if_pos h3] at hhd
          subst hhd
          conv => whnf
          refine .ok (by omega) (by omega) ?_
          conv => whnf
          refine br_dec (fun h4 => ?_) (fun h4 => ?_)
          · rw [show b.fo.leaf = true by rw [hlf]; exact decide_eq_true (by omega)] at e1 e3
            have hie : ins b.fo = 1 := by unfold ins; rw [hlf, decide_eq_true (by omega)]; rfl
            rw [leaf_nil (f := b.fo) (by rw [hlf]; exact decide_eq_true (by omega))] at e2
            simp only [cond_true, heads, hie] at e1 e2 e3 e4
            conv => whnf
            refine .ok (by omega) (by omega) ?_
            conv => whnf
            refine .ok (by omega) (by omega) ?_
            conv => whnf
            refine .ok (by omega) (by omega) ?_
            conv => whnf
            exact ⟨(i + 1, a + 1, hb' + 1, c, d + q, r), rfl, rfl, ⟨rfl, hr, by omega, hp3, by omega, by omega, by omega, by omega⟩, by show m - (i + 1) < m - i; omega⟩
          · have hlf2 : b.fo.leaf = false := by rw [hlf]; exact decide_eq_false (by omega)
            have hie : ins b.fo = tot b.fo := by unfold ins; rw [hlf2]; rfl
            rw [hlf2] at e1 e3
            simp only [cond_false, hie] at e1 e2 e3 e4
            rw [hie] at q2
            conv => whnf
            refine .done (.mk _ (size43 N b (by omega) (by omega) hp2 (by omega) B m' cc h' hb) ?_)
            rintro _ h2 ⟨rfl, rfl⟩
            conv => whnf
            refine .ok (by omega) (by omega) ?_
            conv => whnf
            refine .ok (by omega) (by omega) ?_
            conv => whnf
            refine .ok (by omega) (by omega) ?_
            conv => whnf
            have hz : (q : Int) * ((tot b.fo : Nat) : Int) = ((q * tot b.fo : Nat) : Int) := (Int.natCast_mul _ _).symm
            refine .ok (by rw [hz]; omega) (by rw [hz]; omega) ?_
            rw [hz]
            conv => whnf
            refine .ok (by omega) (by omega) ?_
            conv => whnf
            refine .ok (by omega) (by omega) ?_
            conv => whnf
            refine ⟨(i + 1, a + firs b.fo, hb' + 1 + heads b.fo, max c (deep b.fo + 1), d + q * tot b.fo, r), rfl, ?_, ⟨rfl, hr, by omega, hp3, by omega, by omega, by omega, by omega⟩, by show m - (i + 1) < m - i; omega⟩
            show _ = [LE.own _ 31, LE.own [.v (iv _), .v (iv _), .v (iv ((max c (deep b.fo + 1) : Nat) : Int)), .v (iv _)] 31]
            rw [← imax]
            rfl
        · rw [if_neg h3] at hhd
          subst hhd
          conv => whnf
          refine br_dec (fun h4 => ?_) (fun h4 => ?_)
          · rw [show b.fo.leaf = true by rw [hlf]; exact decide_eq_true (by omega)] at e1 e3
            have hie : ins b.fo = 1 := by unfold ins; rw [hlf, decide_eq_true (by omega)]; rfl
            rw [leaf_nil (f := b.fo) (by rw [hlf]; exact decide_eq_true (by omega))] at e2
            simp only [cond_true, heads, hie] at e1 e2 e3 e4
            conv => whnf
            refine .ok (by omega) (by omega) ?_
            conv => whnf
            refine .ok (by omega) (by omega) ?_
            conv => whnf
            refine .ok (by omega) (by omega) ?_
            conv => whnf
            exact ⟨(i + 1, a + 1, hb', c, d + q, r), rfl, rfl, ⟨rfl, hr, by omega, hp3, by omega, by omega, by omega, by omega⟩, by show m - (i + 1) < m - i; omega⟩
          · have hlf2 : b.fo.leaf = false := by rw [hlf]; exact decide_eq_false (by omega)
            have hie : ins b.fo = tot b.fo := by unfold ins; rw [hlf2]; rfl
            rw [hlf2] at e1 e3
            simp only [cond_false, hie] at e1 e2 e3 e4
            rw [hie] at q2
            conv => whnf
            refine .done (.mk _ (size43 N b (by omega) (by omega) hp2 (by omega) B m' cc h' hb) ?_)
            rintro _ h2 ⟨rfl, rfl⟩
            conv => whnf
            refine .ok (by omega) (by omega) ?_
            conv => whnf
            refine .ok (by omega) (by omega) ?_
            conv => whnf
            refine .ok (by omega) (by omega) ?_
            conv => whnf
            have hz : (q : Int) * ((tot b.fo : Nat) : Int) = ((q * tot b.fo : Nat) : Int) := (Int.natCast_mul _ _).symm
            refine .ok (by rw [hz]; omega) (by rw [hz]; omega) ?_
            rw [hz]
            conv => whnf
            refine .ok (by omega) (by omega) ?_
            conv => whnf
            refine .ok (by omega) (by omega) ?_
            conv => whnf
            refine ⟨(i + 1, a + firs b.fo, hb' + heads b.fo, max c (deep b.fo + 1), d + q * tot b.fo, r), rfl, ?_, ⟨rfl, hr, by omega, hp3, by omega, by omega, by omega, by omega⟩, by show m - (i + 1) < m - i; omega⟩
            show _ = [LE.own _ 31, LE.own [.v (iv _), .v (iv _), .v (iv ((max c (deep b.fo + 1) : Nat) : Int)), .v (iv _)] 31]
            rw [← imax]
            rfl
    · conv => whnf
      cases r with
      | nil =>
        simp only [Lo.fo, firs, heads, deep, tot] at e1 e2 e3 e4
        rw [show firs l.fo = a by omega, show heads l.fo = hb' by omega, show deep l.fo = c by omega, show tot l.fo = d by omega]
        exact .done ⟨rfl, rfl⟩
      | cons => obtain ⟨g, hA, hi, _⟩ := ht.open; omega
end Go.Sx
