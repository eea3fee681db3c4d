/- A nest gone through, yielding. Conditions: none. -/
import Derived.Test.YtnfmbjeicloemaaN16H
namespace Go.Sx
open Go.Proofs
def rep {α : Type} : Nat → List α → List α
  | 0, _ => []
  | k + 1, w => w ++ rep k w
def flat : Fo → List Int
  | .nil => []
  | .cons t n b r => rep t.toNat (bif b.leaf then [n] else flat b) ++ flat r
theorem rep_len {α : Type} (w : List α) : ∀ k, (rep k w).length = k * w.length
  | 0 => by simp [rep]
  | k + 1 => by rw [rep, List.length_append, rep_len w k, Nat.succ_mul]; omega
theorem flat_len : ∀ f : Fo, (flat f).length = tot f
  | .nil => rfl
  | .cons t n b r => by
    simp only [flat, tot, List.length_append, rep_len, flat_len r]
    cases b.leaf with
    | true => rfl
    | false => simp only [cond_false, flat_len b]
theorem tot_body {t n : Int} {b r : Fo} (hp : Pos (.cons t n b r)) {k : Nat} (ht : tot (.cons t n b r) ≤ k) : t.toNat ≤ k ∧ ins b ≤ k ∧ tot r ≤ k := by
  rw [tot_cons] at ht
  have h1 := ins_pos hp.2.1
  have q1 : t.toNat * 1 ≤ t.toNat * ins b := Nat.mul_le_mul_left _ h1
  have q2 : 1 * ins b ≤ t.toNat * ins b := Nat.mul_le_mul_right _ (by have := hp.1; omega)
  omega
def yv (l : Nat) : Value := .func (.yield l) #[] #[]
theorem pre_app {α : Type} {q w z xs : List α} (h : q ++ (w ++ z) <+: xs) : q ++ w <+: xs := List.IsPrefix.trans ⟨z, by simp⟩ h
theorem walk48 (l : Nat) (J Jx : List Int → Hp → Prop) (xs : List Int) (hY : ∀ pre x h, J pre h → pre ++ [x] <+: xs → Yd Try.prog l #[iv x] h fun v h' => (v = .bool true ∧ J (pre ++ [x]) h') ∨ (v = .bool false ∧ Jx (pre ++ [x]) h')) :
    ∀ (N : Nat) (lo : Lo), lo.cnt < N → lo.cnt ≤ 200000 → Pos lo.fo → tot lo.fo ≤ 2048 → ∀ (A : Option Addr) (m cap : Nat) (pre : List Int) (h : Hp), (∀ pre h, J pre h → SAt h A m lo) → J pre h → pre ++ flat lo.fo <+: xs →
    Fn Try.prog 48 #[.slice A m cap, yv l] h fun v h' => (v = .bool true ∧ J (pre ++ flat lo.fo) h') ∨ (v = .bool false ∧ ∃ p, p <+: xs ∧ Jx p h')
  | 0, lo, hN, _ => absurd hN (Nat.not_lt_zero _)
  | N + 1, lo, hN, hc0 => by
    intro hpos htot A m cap pre h hs hj hxs
    have hm : m ≤ 200000 := by have := (hs _ _ hj).1; have := lo.len_cnt; omega
    refine FnY.intro (args := [.slice A m cap, yv l]) Try.func48 rfl (by decide) Try.ntmps48 rfl (low48 rfl) rfl ?_
    conv => whnf
    refine .base (.mk (Nat × List Int × Lo) [1, 7, 8, 9] (fun (i, _, _) => [.v (yv l), .v (.slice A m cap), .v (iv m), .v (iv i)]) (fun _ => [])
        (fun (i, q, r) h' => J q h' ∧ (∀ pre h, J pre h → Tl h A m i r) ∧ r.cnt ≤ lo.cnt ∧ Pos r.fo ∧ tot r.fo ≤ 2048 ∧ q ++ flat r.fo = pre ++ flat lo.fo) (fun (i, _, _) => m - i) (0, pre, lo) (fun _ => rfl) ⟨hj, fun pre h hj => (hs pre h hj).tl, Nat.le_refl _, hpos, htot, rfl⟩ rfl rfl ?_)
    rintro ⟨i, q, r⟩ e h' ⟨hj, ht, hrl, hp, htt, he⟩
    conv => whnf
    refine br_dec (fun h2 => ?_) (fun h2 => ?_)
    · cases r with
      | nil => have := (ht _ _ hj).fin; omega
      | cons t w B m' cc b r =>
        obtain ⟨g, hA, hi, hc, hb, hr⟩ := (ht _ _ hj).open
        have htb : ∀ pre h, J pre h → SAt h B m' b := fun pre h hj => by
          obtain ⟨_, _, _, _, hb, _⟩ := (ht _ _ hj).open
          exact hb
        have htr : ∀ pre h, J pre h → Tl h A m (i + 1) r := fun pre h hj => by
          obtain ⟨_, _, _, _, _, hr⟩ := (ht _ _ hj).open
          exact hr
        have hbm := hb.1
        simp only [Lo.cnt] at hrl
        simp only [Lo.fo] at hp htt he
        obtain ⟨b1, b2, b3⟩ := tot_body hp htt
        obtain ⟨hp1, hp2, hp3⟩ := hp
        obtain ⟨z, rfl⟩ : ∃ z : Nat, t = z := ⟨t.toNat, by omega⟩
        rw [Int.toNat_natCast] at b1
        have hlf := b.leaf_len
        obtain ⟨inner, hin⟩ : ∃ inner, inner = bif b.fo.leaf then [w] else flat b.fo := ⟨_, rfl⟩
        simp only [flat, Int.toNat_natCast] at he
        rw [← hin] at he
        conv => whnf
        refine .mk g hA (by omega) (by omega) ?_
        conv => whnf
        refine .hp (lcells z w B m' cc) rfl (by rw [Int.toNat_natCast]; exact hc) ?_
        conv => whnf
        refine .base (.mk (Nat × List Int) [1, 6, 7, 8, 9, 14, 15] (fun (k, _) => [.v (yv l), .p 0 0, .v (.slice A m cap), .v (iv m), .v (iv i), .v (iv z), .v (iv k)]) (fun _ => [.own ((lcells z w B m' cc).map .v) 58])
          (fun (k, q) h' => J q h' ∧ k ≤ z ∧ q ++ (rep (z - k) inner ++ flat r.fo) = pre ++ flat lo.fo) (fun (k, _) => z - k) (0, q) (fun _ => rfl) ⟨hj, Nat.zero_le _, he⟩ rfl rfl ?_)
        rintro ⟨k, q⟩ e h' ⟨hj, hk, he⟩
        conv => whnf
        refine br_dec (fun h3 => ?_) (fun h3 => ?_)
        · have hkz : k < z := by omega
          rw [show z - k = (z - (k + 1)) + 1 by omega, rep, List.append_assoc] at he
          have hq : q ++ inner <+: xs := pre_app (by rw [he]; exact hxs)
          rw [← List.append_assoc] at he
          conv => whnf
          refine br_dec (fun h4 => ?_) (fun h4 => ?_)
          · have hlf2 : b.fo.leaf = false := by rw [hlf]; exact decide_eq_false (by omega)
            rw [hlf2, cond_false] at hin
            subst hin
            have hbt : tot b.fo ≤ 2048 := by unfold ins at b2; rw [hlf2, cond_false] at b2; exact b2
            conv => whnf
            refine .done (.mk _ (walk48 l J Jx xs hY N b (by omega) (by omega) hp2 hbt B m' cc q h' htb hj hq) ?_)
            rintro _ h2 (⟨rfl, hj2⟩ | ⟨rfl, p, hp, hj2⟩)
            · conv => whnf
              refine .ok (by omega) (by omega) ?_
              conv => whnf
              exact ⟨(k + 1, _), rfl, rfl, ⟨hj2, hkz, he⟩, by show z - (k + 1) < z - k; omega⟩
            · conv => whnf
              exact .done (.inr ⟨rfl, p, hp, hj2⟩)
          · have hlf2 : b.fo.leaf = true := by rw [hlf]; exact decide_eq_true (by omega)
            rw [hlf2, cond_true] at hin
            subst hin
            conv => whnf
            refine .done (.mk _ (hY q w h' hj hq) ?_)
            rintro _ h2 (⟨rfl, hj2⟩ | ⟨rfl, hj2⟩)
            · conv => whnf
              refine .ok (by omega) (by omega) ?_
              conv => whnf
              exact ⟨(k + 1, _), rfl, rfl, ⟨hj2, hkz, he⟩, by show z - (k + 1) < z - k; omega⟩
            · conv => whnf
              exact .done (.inr ⟨rfl, _, hq, hj2⟩)
        · obtain rfl : k = z := by omega
          rw [Nat.sub_self, rep, List.nil_append] at he
          conv => whnf
          refine .ok (by omega) (by omega) ?_
          conv => whnf
          exact ⟨(i + 1, q, r), rfl, rfl, ⟨hj, htr, by omega, hp3, b3, he⟩, by show m - (i + 1) < m - i; omega⟩
    · conv => whnf
      cases r with
      | nil =>
        rw [← he]
        refine .done (.inl ⟨rfl, ?_⟩)
        rw [show q ++ flat Lo.nil.fo = q from List.append_nil q]
        exact hj
      | cons => obtain ⟨g, hA, hi, _⟩ := (ht _ _ hj).open; omega
end Go.Sx
