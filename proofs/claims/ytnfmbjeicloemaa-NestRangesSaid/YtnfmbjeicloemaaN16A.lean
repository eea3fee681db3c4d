/- Nests in a partial heap; how heavy a nest is. Conditions: none. -/
import Derived.Test.YtnfmbjeicloemaaIr16
import Derived.Test.YtnfmbjeicloemaaD1
import Derived.Test.YtnfmbjeicloemaaSx17
namespace Go.Sx
open Go.Proofs
theorem mix16 : Try.prog.follows .mixedOrders = true := by kernel_rfl
/-- A nest: a row of loops; each has a body. -/
inductive Fo where
  | nil
  | cons (t n : Int) (b r : Fo)
  deriving DecidableEq
/-- A nest that knows where its bodies lie. -/
inductive Lo where
  | nil
  | cons (t n : Int) (B : Option Addr) (m c : Nat) (b r : Lo)
def Lo.fo : Lo → Fo
  | .nil => .nil
  | .cons t n _ _ _ b r => .cons t n b.fo r.fo
def Fo.len : Fo → Nat
  | .nil => 0
  | .cons _ _ _ r => r.len + 1
def Lo.len : Lo → Nat
  | .nil => 0
  | .cons _ _ _ _ _ _ r => r.len + 1
/-- how many loops there are in all -/
def Lo.cnt : Lo → Nat
  | .nil => 0
  | .cons _ _ _ _ _ b r => b.cnt + 1 + r.cnt
def Fo.cnt : Fo → Nat
  | .nil => 0
  | .cons _ _ b r => b.cnt + 1 + r.cnt
theorem Lo.fo_len : ∀ l : Lo, l.fo.len = l.len
  | .nil => rfl
  | .cons _ _ _ _ _ _ r => by simp [Lo.fo, Fo.len, Lo.len, r.fo_len]
theorem Lo.fo_cnt : ∀ l : Lo, l.fo.cnt = l.cnt
  | .nil => rfl
  | .cons _ _ _ _ _ b r => by simp [Lo.fo, Fo.cnt, Lo.cnt, b.fo_cnt, r.fo_cnt]
theorem Lo.len_cnt : ∀ l : Lo, l.len ≤ l.cnt
  | .nil => Nat.le_refl _
  | .cons _ _ _ _ _ _ r => by have := r.len_cnt; simp only [Lo.len, Lo.cnt]; omega
theorem Lo.cnt_len {l : Lo} (h : l.len = 0) : l = .nil := by
  cases l with
  | nil => rfl
  | cons => simp [Lo.len] at h
def lcells (t n : Int) (B : Option Addr) (m c : Nat) : List Value := [iv t, iv n, .slice B m c]
/-- A nest lies at a place, from its i-th loop on. -/
def At (h : Hp) : Addr → Nat → Lo → Prop
  | _, _, .nil => True
  | g, i, .cons t n B m c b r => (∀ j v, (lcells t n B m c)[j]? = some v → h.cell? ((g.add (i * 3)).add j) = some v) ∧ m = b.len ∧ (b = .nil ∨ ∃ g', B = some g' ∧ At h g' 0 b) ∧ At h g (i + 1) r
/-- A slice is a nest. -/
def SAt (h : Hp) (A : Option Addr) (m : Nat) (l : Lo) : Prop := m = l.len ∧ (l = .nil ∨ ∃ g, A = some g ∧ At h g 0 l)
theorem At.mono {h h' : Hp} (x : h.le h') : ∀ (l : Lo) (g : Addr) (i : Nat), At h g i l → At h' g i l
  | .nil, _, _, _ => trivial
  | .cons _ _ _ _ _ b r, g, i, ⟨h1, h2, h3, h4⟩ => ⟨fun j v hv => Hp.cell_le x (h1 j v hv), h2, h3.imp id fun ⟨g', e, hb⟩ => ⟨g', e, At.mono x b g' 0 hb⟩, At.mono x r g (i + 1) h4⟩
theorem SAt.mono {h h' : Hp} {A : Option Addr} {m : Nat} {l : Lo} (x : h.le h') (s : SAt h A m l) : SAt h' A m l := ⟨s.1, s.2.imp id fun ⟨g, e, hb⟩ => ⟨g, e, At.mono x l g 0 hb⟩⟩

/-- where a walk along a nest stands -/
def Tl (h : Hp) (A : Option Addr) (n : Nat) (i : Nat) (l : Lo) : Prop := i + l.len = n ∧ (l = .nil ∨ ∃ g, A = some g ∧ At h g i l)
theorem SAt.tl {h : Hp} {A : Option Addr} {n : Nat} {l : Lo} (s : SAt h A n l) : Tl h A n 0 l := ⟨by have := s.1; omega, s.2⟩
theorem Tl.mono {h h' : Hp} (x : h.le h') {A : Option Addr} {n i : Nat} {l : Lo} (s : Tl h A n i l) : Tl h' A n i l := ⟨s.1, s.2.imp id fun ⟨g, e, hb⟩ => ⟨g, e, At.mono x l g i hb⟩⟩
theorem Tl.open {h : Hp} {A : Option Addr} {n i : Nat} {t k : Int} {B : Option Addr} {m c : Nat} {b r : Lo} (s : Tl h A n i (.cons t k B m c b r)) :
    ∃ g, A = some g ∧ i < n ∧ (∀ j v, (lcells t k B m c)[j]? = some v → h.cell? ((g.add (i * 3)).add j) = some v) ∧ SAt h B m b ∧ Tl h A n (i + 1) r := by
  obtain ⟨h1, h2⟩ := s
  rcases h2 with h2 | ⟨g, e, a, b', c', d⟩
  · cases h2
  · simp only [Lo.len] at h1
    exact ⟨g, e, by omega, a, ⟨b', c'⟩, by omega, .inr ⟨g, e, d⟩⟩
theorem Tl.fin {h : Hp} {A : Option Addr} {n i : Nat} (s : Tl h A n i .nil) : i = n := s.1

/-- how heavy -/
theorem weight36 : ∀ (N : Nat) (l : Lo), l.cnt < N → ∀ (A : Option Addr) (m cap : Nat) (d k : Nat) (h : Hp), SAt h A m l → d ≤ 61 → k ≤ 65537 →
    Fn Try.prog 36 #[.slice A m cap, iv d, iv k] h fun v h' => h' = h ∧ ∃ z : Nat, v = iv z ∧ z ≤ 65537 ∧ (z ≤ 65536 → z = k + l.cnt)
  | 0, l, hN => absurd hN (Nat.not_lt_zero _)
  | N + 1, l, hN => by
    intro A m cap d k h hs hd hk
    refine Fn.intro (args := [.slice A m cap, iv d, iv k]) mix16 Try.func36 rfl (by decide) Try.ntmps36 rfl (low36 rfl) rfl ?_
    conv => whnf
    refine br_dec (fun h1 => ?_) (fun h1 => ?_)
    · conv => whnf
      exact .done ⟨rfl, 65537, rfl, Nat.le_refl _, fun e => by omega⟩
    · conv => whnf
      refine .mk (Nat × Nat × Lo) [0, 1, 2, 7] (fun (i, q, _) => [.v (.slice A m cap), .v (iv d), .v (iv q), .v (iv i)]) (fun _ => [])
        (fun (i, q, r) h' => h' = h ∧ Tl h A m i r ∧ q ≤ 65537 ∧ i + k ≤ q ∧ r.cnt ≤ l.cnt ∧ (q ≤ 65536 → q + r.cnt = k + l.cnt)) (fun (i, _, _) => m - i) (0, k, l) (fun _ => rfl) ⟨rfl, hs.tl, hk, by omega, Nat.le_refl _, fun _ => rfl⟩ rfl rfl ?_
      rintro ⟨i, q, r⟩ e h' ⟨rfl, ht, hq, hiq, hrl, he⟩
      conv => whnf
      refine br_dec (fun h2 => ?_) (fun h2 => ?_)
      · conv => whnf
        refine br_dec (fun h3 => ?_) (fun h3 => ?_)
        · cases r with
          | nil => have := ht.fin; omega
          | cons t w B m' c b r =>
            obtain ⟨g, hA, hi, hc, hb, hr⟩ := ht.open
            simp only [Lo.cnt] at hrl he
            conv => whnf
            refine .mk g hA (by omega) (by omega) ?_
            conv => whnf
            refine .hp _ (by rw [Int.toNat_natCast]; exact hc 2 _ rfl) ?_
            conv => whnf
            refine .ok (by omega) (by omega) ?_
            conv => whnf
            refine .ok (by omega) (by omega) ?_
            conv => whnf
            refine .done (.mk _ (weight36 N b (by omega) B m' c (d + 1) (q + 1) h' hb (by omega) (by omega)) ?_)
            rintro _ h2 ⟨rfl, z, rfl, z1, z2⟩
            conv => whnf
            refine .ok (by omega) (by omega) ?_
            conv => whnf
            exact ⟨(i + 1, z, r), rfl, rfl, ⟨rfl, hr, z1, by omega, by omega, fun h => by have := z2 h; omega⟩, by show m - (i + 1) < m - i; omega⟩
        · conv => whnf
          exact .done ⟨rfl, q, rfl, hq, fun e => by omega⟩
      · conv => whnf
        refine .done ⟨rfl, q, rfl, hq, fun e => ?_⟩
        cases r with
        | nil => simpa [Lo.cnt] using he e
        | cons => obtain ⟨g, hA, hi, _⟩ := ht.open; omega
theorem heavy14 (l : Lo) (A : Option Addr) (m cap : Nat) (h : Hp) (hs : SAt h A m l) : Fn Try.prog 14 #[.slice A m cap] h fun v h' => h' = h ∧ ∃ b, v = .bool b ∧ (b = false → l.cnt ≤ 65536) := by
  refine Fn.intro (args := [.slice A m cap]) mix16 Try.func14 rfl (by decide) Try.ntmps14 rfl (low14 rfl) rfl ?_
  conv => whnf
  refine .done (.mk _ (weight36 _ l (Nat.lt_succ_self _) A m cap 0 0 h hs (by omega) (by omega)) ?_)
  rintro _ h2 ⟨rfl, z, rfl, z1, z2⟩
  conv => whnf
  exact .done ⟨rfl, _, rfl, fun e => by
    have := of_decide_eq_false e
    have := z2 (by omega)
    omega⟩
end Go.Sx
