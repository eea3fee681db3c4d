/- Checking a nest: the document's answer, totals, and both checks. Conditions: none. -/
import Derived.Test.YtnfmbjeicloemaaN16B
namespace Go.Sx
open Go.Proofs
/-- how many firings -/
def tot : Fo → Nat
  | .nil => 0
  | .cons t _ b r => t.toNat * (bif b.leaf then 1 else tot b) + tot r
/-- every loop goes round at least once -/
def Pos : Fo → Prop
  | .nil => True
  | .cons t _ b r => 1 ≤ t ∧ Pos b ∧ Pos r
theorem findF_pos : ∀ (f : Fo) (d k : Nat), (findF f d k).1 = 0 → Pos f
  | .nil, _, _, _ => trivial
  | .cons t n b r, d, k, h => by
    simp only [findF] at h
    split at h
    · rename_i h1
      refine ⟨?_, ?_, findF_pos r d _ h⟩
      · unfold oneF at h1
        repeat' split at h1
        all_goals first | omega | (simp at h1; done) | skip
      · unfold oneF at h1
        repeat' split at h1
        all_goals first | (simp at h1; done) | skip
        · rename_i hl _
          cases b with
          | nil => trivial
          | cons => simp [Fo.leaf] at hl
        · exact findF_pos b (d + 1) k h1
    · rename_i h1; exact absurd h h1
theorem tot_pos : ∀ (f : Fo), Pos f → f.leaf = false → 1 ≤ tot f
  | .nil, _, h => by simp [Fo.leaf] at h
  | .cons t n b r, ⟨h1, h2, _⟩, _ => by
    simp only [tot]
    have hb : 1 ≤ (bif b.leaf then 1 else tot b) := by
      cases hl : b.leaf with
      | true => exact Nat.le_refl _
      | false => exact tot_pos b h2 hl
    have : 1 * 1 ≤ t.toNat * (bif b.leaf then 1 else tot b) := Nat.mul_le_mul (by omega) hb
    omega
def ins (f : Fo) : Nat := bif f.leaf then 1 else tot f
theorem ins_pos {f : Fo} (h : Pos f) : 1 ≤ ins f := by
  unfold ins
  cases hl : f.leaf with
  | true => exact Nat.le_refl _
  | false => exact tot_pos f h hl
theorem tot_cons (t n : Int) (b r : Fo) : tot (.cons t n b r) = t.toNat * ins b + tot r := rfl
theorem total39 : ∀ (N : Nat) (l : Lo), l.cnt < N → l.cnt ≤ 200000 → Pos l.fo → ∀ (A : Option Addr) (m cap : Nat) (h : Hp), SAt h A m l →
    Fn Try.prog 39 #[.slice A m cap] h fun v h' => h' = h ∧ v = iv (min (tot l.fo) 2049 : Nat)
  | 0, l, hN, _ => absurd hN (Nat.not_lt_zero _)
  | N + 1, l, hN, hc0 => by
    intro hpos A m cap h hs
    have hm : m ≤ 200000 := by have := hs.1; have := l.len_cnt; omega
    refine Fn.intro (args := [.slice A m cap]) mix16 Try.func39 rfl (by decide) Try.ntmps39 rfl (low39 rfl) rfl ?_
    conv => whnf
    refine .mk (Nat × Nat × Lo) [3, 7, 8, 9] (fun (i, s, _) => [.v (iv s), .v (.slice A m cap), .v (iv m), .v (iv i)]) (fun _ => [])
        (fun (i, s, r) h' => h' = h ∧ Tl h A m i r ∧ s ≤ 2048 ∧ r.cnt ≤ l.cnt ∧ Pos r.fo ∧ s + tot r.fo = tot l.fo) (fun (i, _, _) => m - i) (0, 0, l) (fun _ => rfl) ⟨rfl, hs.tl, Nat.zero_le _, Nat.le_refl _, hpos, by omega⟩ rfl rfl ?_
    rintro ⟨i, s, r⟩ e h' ⟨rfl, ht, hq, hrl, hp, he⟩
    conv => whnf
    refine br_dec (fun h2 => ?_) (fun h2 => ?_)
    · cases r with
      | nil => have := ht.fin; omega
      | cons t w B m' c b r =>
        obtain ⟨g, hA, hi, hc, hb, hr⟩ := ht.open
        simp only [Lo.cnt] at hrl
        simp only [Lo.fo] at hp
        obtain ⟨hp1, hp2, hp3⟩ := hp
        obtain ⟨q, rfl⟩ : ∃ q : Nat, t = q := ⟨t.toNat, by omega⟩
        have hins := ins_pos hp2
        have he2 : s + (q * ins b.fo + tot r.fo) = tot l.fo := by
          have := tot_cons q w b.fo r.fo
          simp only [Int.toNat_natCast] at this
          rw [← this]; exact he
        have hbm := hb.1
        -- the end of a round, out of how many there are inside
        conv => whnf
        refine .mk g hA (by omega) (by omega) ?_
        conv => whnf
        refine .hp (lcells q w B m' c) rfl (by rw [Int.toNat_natCast]; exact hc) ?_
        conv => whnf
        refine br_dec (fun h3 => ?_) (fun h3 => ?_)
        · have hlf : b.fo.leaf = false := by rw [b.leaf_len]; exact decide_eq_false (by omega)
          have hie : ins b.fo = tot b.fo := by unfold ins; rw [hlf]; rfl
          conv => whnf
          refine .done (.mk _ (total39 N b (by omega) (by omega) hp2 B m' c h' hb) ?_)
          rintro _ h2 ⟨rfl, rfl⟩
          conv => whnf
          refine br_dec (fun h4 => ?_) (fun h4 => ?_)
          · conv => whnf
            refine .done ⟨rfl, ?_⟩
            have : q * 1 ≤ q * ins b.fo := Nat.mul_le_mul_left _ hins
            rw [show min (tot l.fo) 2049 = 2049 by omega]
            rfl
          conv => whnf
          refine br_dec (fun h5 => ?_) (fun h5 => ?_)
          · conv => whnf
            refine .done ⟨rfl, ?_⟩
            have : 1 * ins b.fo ≤ q * ins b.fo := Nat.mul_le_mul_right _ (by omega)
            rw [show min (tot l.fo) 2049 = 2049 by omega]
            rfl
          have hmin : min (tot b.fo) 2049 = ins b.fo := by omega
          have hb2 : q * ins b.fo ≤ 2048 * 2048 := Nat.mul_le_mul (by omega) (by omega)
          have hz : ((min (tot b.fo) 2049 : Nat) : Int) * (q : Int) = ((q * ins b.fo : Nat) : Int) := by rw [hmin, Nat.mul_comm]; exact (Int.natCast_mul _ _).symm
          conv => whnf
          refine .ok (by rw [hz]; omega) (by rw [hz]; omega) ?_
          rw [hz]
          conv => whnf
          refine .ok (by omega) (by omega) ?_
          conv => whnf
          refine br_dec (fun h6 => ?_) (fun h6 => ?_)
          · conv => whnf
            refine .done ⟨rfl, ?_⟩
            rw [show min (tot l.fo) 2049 = 2049 by omega]
            rfl
          · conv => whnf
            refine .ok (by omega) (by omega) ?_
            conv => whnf
            exact ⟨(i + 1, s + q * ins b.fo, r), rfl, rfl, ⟨rfl, hr, by omega, by omega, hp3, by omega⟩, by show m - (i + 1) < m - i; omega⟩
        · have hlf : b.fo.leaf = true := by rw [b.leaf_len]; exact decide_eq_true (by omega)
          have hie : ins b.fo = 1 := by unfold ins; rw [hlf]; rfl
          rw [hie] at he2
          conv => whnf
          refine br_dec (fun h4 => ?_) (fun h4 => ?_)
          · conv => whnf
            refine .done ⟨rfl, ?_⟩
            rw [show min (tot l.fo) 2049 = 2049 by omega]
            rfl
          conv => whnf
          have hz : (1 : Int) * (q : Int) = (q : Int) := Int.one_mul _
          refine .ok (by omega) (by omega) ?_
          conv => whnf
          refine .ok (by omega) (by omega) ?_
          conv => whnf
          refine br_dec (fun h6 => ?_) (fun h6 => ?_)
          · conv => whnf
            refine .done ⟨rfl, ?_⟩
            rw [show min (tot l.fo) 2049 = 2049 by omega]
            rfl
          · conv => whnf
            refine .ok (by omega) (by omega) ?_
            conv => whnf
            refine ⟨(i + 1, s + q, r), ?_, rfl, ⟨rfl, hr, by omega, by omega, hp3, by omega⟩, by show m - (i + 1) < m - i; omega⟩
            rw [show ((s : Int) + 1 * (q : Int)) = ((s + q : Nat) : Int) by omega]
            rfl
    · conv => whnf
      cases r with
      | nil =>
        refine .done ⟨rfl, ?_⟩
        simp only [Lo.fo, tot] at he
        rw [← he, show min (s + 0) 2049 = s by omega]
        rfl
      | cons => obtain ⟨g, hA, hi, _⟩ := ht.open; omega
end Go.Sx
