/- Nests in a partial heap; how heavy a nest is. Conditions: none. -/
import Derived.Test.YtndkgmgkbedepaaIr17
import Derived.Test.YtndkgmgkbedepaaD1
import Derived.Test.YtndkgmgkbedepaaSx17
namespace Go.Sx
open Go.Proofs
set_option maxRecDepth 100000
theorem mix16 : Try.prog.follows .mixedOrders = true := by kernel_rfl
/-- A nest: a row of loops; each has a body. -/
inductive Fo where
  | nil
  | cons (t n : Int) (b r : Fo)
  deriving DecidableEq
/-- A nest that knows where its bodies lie. -/
inductive Lo where
  | nil
  | cons (t n : Int) (B : Option Addr) (m c : Nat) (b r : Lo)
def Lo.fo : Lo → Fo
  | .nil => .nil
  | .cons t n _ _ _ b r => .cons t n b.fo r.fo
def Fo.len : Fo → Nat
  | .nil => 0
  | .cons _ _ _ r => r.len + 1
def Lo.len : Lo → Nat
  | .nil => 0
  | .cons _ _ _ _ _ _ r => r.len + 1
/-- how many loops there are in all -/
def Lo.cnt : Lo → Nat
  | .nil => 0
  | .cons _ _ _ _ _ b r => b.cnt + 1 + r.cnt
def Fo.cnt : Fo → Nat
  | .nil => 0
  | .cons _ _ b r => b.cnt + 1 + r.cnt
theorem Lo.fo_len : ∀ l : Lo, l.fo.len = l.len
  | .nil => rfl
  | .cons _ _ _ _ _ _ r => by simp [Lo.fo, Fo.len, Lo.len, r.fo_len]
theorem Lo.fo_cnt : ∀ l : Lo, l.fo.cnt = l.cnt
  | .nil => rfl
  | .cons _ _ _ _ _ b r => by simp [Lo.fo, Fo.cnt, Lo.cnt, b.fo_cnt, r.fo_cnt]
theorem Lo.len_cnt : ∀ l : Lo, l.len ≤ l.cnt
  | .nil => Nat.le_refl _
  | .cons _ _ _ _ _ _ r => by have := r.len_cnt; simp only [Lo.len, Lo.cnt]; omega
theorem Lo.cnt_len {l : Lo} (h : l.len = 0) : l = .nil := by
  cases l with
  | nil => rfl
  | cons => simp [Lo.len] at h
def lcells (t n : Int) (B : Option Addr) (m c : Nat) : List Value := [iv t, iv n, .slice B m c]
/-- A nest lies at a place, from its i-th loop on. -/
def At (h : Hp) : Addr → Nat → Lo → Prop
  | _, _, .nil => True
  | g, i, .cons t n B m c b r => (∀ j v, (lcells t n B m c)[j]? = some v → h.cell? ((g.add (i * 3)).add j) = some v) ∧ m = b.len ∧ (b = .nil ∨ ∃ g', B = some g' ∧ At h g' 0 b) ∧ At h g (i + 1) r
/-- A slice is a nest. -/
def SAt (h : Hp) (A : Option Addr) (m : Nat) (l : Lo) : Prop := m = l.len ∧ (l = .nil ∨ ∃ g, A = some g ∧ At h g 0 l)
theorem At.mono {h h' : Hp} (x : h.le h') : ∀ (l : Lo) (g : Addr) (i : Nat), At h g i l → At h' g i l
  | .nil, _, _, _ => trivial
  | .cons _ _ _ _ _ b r, g, i, ⟨h1, h2, h3, h4⟩ => ⟨fun j v hv => Hp.cell_le x (h1 j v hv), h2, h3.imp id fun ⟨g', e, hb⟩ => ⟨g', e, At.mono x b g' 0 hb⟩, At.mono x r g (i + 1) h4⟩
theorem SAt.mono {h h' : Hp} {A : Option Addr} {m : Nat} {l : Lo} (x : h.le h') (s : SAt h A m l) : SAt h' A m l := ⟨s.1, s.2.imp id fun ⟨g, e, hb⟩ => ⟨g, e, At.mono x l g 0 hb⟩⟩

/-- where a walk along a nest stands -/
def Tl (h : Hp) (A : Option Addr) (n : Nat) (i : Nat) (l : Lo) : Prop := i + l.len = n ∧ (l = .nil ∨ ∃ g, A = some g ∧ At h g i l)
theorem SAt.tl {h : Hp} {A : Option Addr} {n : Nat} {l : Lo} (s : SAt h A n l) : Tl h A n 0 l := ⟨by have := s.1; omega, s.2⟩
theorem Tl.mono {h h' : Hp} (x : h.le h') {A : Option Addr} {n i : Nat} {l : Lo} (s : Tl h A n i l) : Tl h' A n i l := ⟨s.1, s.2.imp id fun ⟨g, e, hb⟩ => ⟨g, e, At.mono x l g i hb⟩⟩
theorem Tl.open {h : Hp} {A : Option Addr} {n i : Nat} {t k : Int} {B : Option Addr} {m c : Nat} {b r : Lo} (s : Tl h A n i (.cons t k B m c b r)) :
    ∃ g, A = some g ∧ i < n ∧ (∀ j v, (lcells t k B m c)[j]? = some v → h.cell? ((g.add (i * 3)).add j) = some v) ∧ SAt h B m b ∧ Tl h A n (i + 1) r := by
  obtain ⟨h1, h2⟩ := s
  rcases h2 with h2 | ⟨g, e, a, b', c', d⟩
  · cases h2
  · simp only [Lo.len] at h1
    exact ⟨g, e, by omega, a, ⟨b', c'⟩, by omega, .inr ⟨g, e, d⟩⟩
theorem Tl.fin {h : Hp} {A : Option Addr} {n i : Nat} (s : Tl h A n i .nil) : i = n := s.1

/-- how heavy -/
theorem weight36 : ∀ (N : Nat) (l : Lo), l.cnt < N → ∀ (A : Option Addr) (m cap : Nat) (d k : Nat) (h : Hp), SAt h A m l → d ≤ 61 → k ≤ 65537 →
    Fn Try.prog 31 #[.slice A m cap, iv d, iv k] h fun v h' => h' = h ∧ ∃ z : Nat, v = iv z ∧ z ≤ 65537 ∧ (z ≤ 65536 → z = k + l.cnt)
  | 0, l, hN => absurd hN (Nat.not_lt_zero _)
  | N + 1, l, hN => by
    intro A m cap d k h hs hd hk
    refine Fn.intro (args := [.slice A m cap, iv d, iv k]) mix16 Try.func31 rfl (by decide) Try.ntmps31 rfl (low31 rfl) rfl ?_
    conv => whnf
    refine br_dec (fun h1 => ?_) (fun h1 => ?_)
    · conv => whnf
      exact .done ⟨rfl, 65537, rfl, Nat.le_refl _, fun e => by omega⟩
    · conv => whnf
      refine .mk (Nat × Nat × Lo) [0, 1, 2, 7] (fun (i, q, _) => [.v (.slice A m cap), .v (iv d), .v (iv q), .v (iv i)]) (fun _ => [])
        (fun (i, q, r) h' => h' = h ∧ Tl h A m i r ∧ q ≤ 65537 ∧ i + k ≤ q ∧ r.cnt ≤ l.cnt ∧ (q ≤ 65536 → q + r.cnt = k + l.cnt)) (fun (i, _, _) => m - i) (0, k, l) (fun _ => rfl) ⟨rfl, hs.tl, hk, by omega, Nat.le_refl _, fun _ => rfl⟩ rfl rfl ?_
      rintro ⟨i, q, r⟩ e h' ⟨rfl, ht, hq, hiq, hrl, he⟩
      conv => whnf
      refine br_dec (fun h2 => ?_) (fun h2 => ?_)
      · conv => whnf
        refine br_dec (fun h3 => ?_) (fun h3 => ?_)
        · cases r with
          | nil => have := ht.fin; omega
          | cons t w B m' c b r =>
            obtain ⟨g, hA, hi, hc, hb, hr⟩ := ht.open
            simp only [Lo.cnt] at hrl he
            conv => whnf
            refine .mk g hA (by omega) (by omega) ?_
            conv => whnf
            refine .hp _ (by rw [Int.toNat_natCast]; exact hc 2 _ rfl) ?_
            conv => whnf
            refine .ok (by omega) (by omega) ?_
            conv => whnf
            refine .ok (by omega) (by omega) ?_
            conv => whnf
            refine .done (.mk _ (weight36 N b (by omega) B m' c (d + 1) (q + 1) h' hb (by omega) (by omega)) ?_)
            rintro _ h2 ⟨rfl, z, rfl, z1, z2⟩
            conv => whnf
            refine .ok (by omega) (by omega) ?_
            conv => whnf
            exact ⟨(i + 1, z, r), rfl, rfl, ⟨rfl, hr, z1, by omega, by omega, fun h => by have := z2 h; omega⟩, by show m - (i + 1) < m - i; omega⟩
        · conv => whnf
          exact .done ⟨rfl, q, rfl, hq, fun e => by omega⟩
      · conv => whnf
        refine .done ⟨rfl, q, rfl, hq, fun e => ?_⟩
        cases r with
        | nil => simpa [Lo.cnt] using he e
        | cons => obtain ⟨g, hA, hi, _⟩ := ht.open; omega
theorem heavy14 (l : Lo) (A : Option Addr) (m cap : Nat) (h : Hp) (hs : SAt h A m l) : Fn Try.prog 9 #[.slice A m cap] h fun v h' => h' = h ∧ ∃ b, v = .bool b ∧ (b = false → l.cnt ≤ 65536) := by
  refine Fn.intro (args := [.slice A m cap]) mix16 Try.func9 rfl (by decide) Try.ntmps9 rfl (low9 rfl) rfl ?_
  conv => whnf
  refine .done (.mk _ (weight36 _ l (Nat.lt_succ_self _) A m cap 0 0 h hs (by omega) (by omega)) ?_)
  rintro _ h2 ⟨rfl, z, rfl, z1, z2⟩
  conv => whnf
  exact .done ⟨rfl, _, rfl, fun e => by
    have := of_decide_eq_false e
    have := z2 (by omega)
    omega⟩
end Go.Sx
namespace Go.Sx
open Go.Proofs
set_option maxRecDepth 100000
def Fo.leaf : Fo → Bool
  | .nil => true
  | .cons .. => false
theorem Lo.leaf_len (l : Lo) : l.fo.leaf = decide (l.len = 0) := by cases l <;> simp [Lo.fo, Fo.leaf, Lo.len]
/-- one loop: what is wrong with it, and how many leaves stand ahead of what comes behind -/
def oneF (t n : Int) (lf : Bool) (d k : Nat) (rb : Int × Nat) : Int × Nat :=
  if 2048 ≤ k then (5, k) else if lf = false ∧ 16 ≤ d then (161, k) else if t < 1 then (160, k) else if lf = true then (if n < 0 ∨ 32 ≤ n then (100, k) else (0, k + 1)) else if n ≠ 0 then (162, k) else rb
def findF : Fo → Nat → Nat → Int × Nat
  | .nil, _, k => (0, k)
  | .cons t n b r, d, k => if (oneF t n b.leaf d k (findF b (d + 1) k)).1 = 0 then findF r d (oneF t n b.leaf d k (findF b (d + 1) k)).2 else oneF t n b.leaf d k (findF b (d + 1) k)
theorem oneF_le {t n : Int} {lf : Bool} {d k : Nat} {rb : Int × Nat} (hk : k ≤ 2048) (hb : rb.2 ≤ 2048) : (oneF t n lf d k rb).2 ≤ 2048 := by
  unfold oneF
  repeat' split
  all_goals first | exact hk | exact hb | (show k + 1 ≤ 2048; omega)
theorem findF_le : ∀ (f : Fo) (d k : Nat), k ≤ 2048 → (findF f d k).2 ≤ 2048
  | .nil, _, _, h => h
  | .cons t n b r, d, k, h => by
    have h1 := oneF_le (t := t) (n := n) (lf := b.leaf) (d := d) (rb := findF b (d + 1) k) h (findF_le b (d + 1) k h)
    simp only [findF]
    split
    · exact findF_le r d _ h1
    · exact h1
abbrev ck (k : Nat) : Obj := .cells [iv k].toArray 72 (0, 0)
def lptr (b : Nat) : Value := .pointer (some ⟨b, 0, none⟩)
theorem Hp.put_put (h : Hp) (b : Nat) (o o' : Obj) : (h.put b o).put b o' = h.put b o' := by
  funext j; unfold Hp.put; split <;> rfl
theorem ck_cell (h : Hp) (b k : Nat) : (h.put b (ck k)).cell? ⟨b, 0, none⟩ = some (iv k) := by
  unfold Hp.cell?; simp [Hp.put_same]
def Row38 (l : Lo) : Prop := ∀ (A : Option Addr) (m cap d k b : Nat) (hF : Hp), SAt hF A m l → hF b = none → d ≤ 16 → k ≤ 2048 →
    Fn Try.prog 40 #[lptr b, .slice A m cap, iv d] (hF.put b (ck k)) fun v h' => v = iv (findF l.fo d k).1 ∧ h' = hF.put b (ck (findF l.fo d k).2)
theorem one50 (t n : Int) (B : Option Addr) (m c : Nat) (l : Lo) (hrow : Row38 l) (d k b : Nat) (hF : Hp) (hs : SAt hF B m l) (hb : hF b = none) (hd : d ≤ 16) (hk : k ≤ 2048) :
    Fn Try.prog 50 #[lptr b, .agg (lcells t n B m c).toArray, iv d] (hF.put b (ck k)) fun v h' => v = iv (oneF t n l.fo.leaf d k (findF l.fo (d + 1) k)).1 ∧ h' = hF.put b (ck (oneF t n l.fo.leaf d k (findF l.fo (d + 1) k)).2) := by
  have hm := hs.1
  rw [l.leaf_len]
  refine Fn.intro (args := [lptr b, .agg (lcells t n B m c).toArray, iv d]) mix16 Try.func50 rfl (by decide) Try.ntmps50 rfl (low50 rfl) rfl ?_
  conv => whnf
  refine .hp _ (ck_cell hF b k) ?_
  conv => whnf
  refine br_dec (fun h1 => ?_) (fun h1 => ?_)
  · conv => whnf
    exact .done (by unfold oneF; rw [if_pos (by omega)]; exact ⟨rfl, rfl⟩)
  · have fin : ∀ {x : Int × Nat}, oneF t n (decide (l.len = 0)) d k (findF l.fo (d + 1) k) = x → (iv x.1 = iv (oneF t n (decide (l.len = 0)) d k (findF l.fo (d + 1) k)).1 ∧ hF.put b (ck x.2) = hF.put b (ck (oneF t n (decide (l.len = 0)) d k (findF l.fo (d + 1) k)).2)) := by
      rintro x rfl; exact ⟨rfl, rfl⟩
    rcases Nat.eq_zero_or_pos m with h0 | h0
    · subst h0
      rw [show decide (l.len = 0) = true from decide_eq_true hm.symm] at fin ⊢
      conv => whnf
      refine br_dec (fun h3 => ?_) (fun h3 => ?_)
      · conv => whnf
        exact .done (fin (x := (160, k)) (by unfold oneF; rw [if_neg (by omega), if_neg (by simp), if_pos h3]))
      have node : n < 0 ∨ 32 ≤ n → oneF t n true d k (findF l.fo (d + 1) k) = (100, k) := fun hh => by
        unfold oneF; rw [if_neg (by omega), if_neg (by simp), if_neg h3, if_pos rfl, if_pos hh]
      conv => whnf
      refine br_dec (fun h4 => ?_) (fun h4 => ?_)
      · conv => whnf
        exact .done (fin (node (.inl h4)))
      conv => whnf
      refine br_dec (fun h5 => ?_) (fun h5 => ?_)
      · conv => whnf
        exact .done (fin (node (.inr h5)))
      conv => whnf
      refine .hp _ (ck_cell hF b k) ?_
      conv => whnf
      refine .ok (by omega) (by omega) ?_
      conv => whnf
      refine .hp b 0 72 [iv k] [iv ((k : Int) + 1)] rfl (Hp.put_same _ _ _) rfl ?_
      conv => whnf
      refine .done ?_
      rw [Hp.put_put]
      exact fin (x := (0, k + 1)) (by unfold oneF; rw [if_neg (by omega), if_neg (by simp), if_neg h3, if_pos rfl, if_neg (by omega)])
    · rw [show decide (l.len = 0) = false from decide_eq_false (by omega)] at fin ⊢
      conv => whnf
      refine br_intro (fun _ => ?_) (fun h2 => absurd h2 (by simp; omega))
      conv => whnf
      refine br_dec (fun h2 => ?_) (fun h2 => ?_)
      · conv => whnf
        exact .done (fin (x := (161, k)) (by unfold oneF; rw [if_neg (by omega), if_pos ⟨rfl, by omega⟩]))
      conv => whnf
      refine br_dec (fun h3 => ?_) (fun h3 => ?_)
      · conv => whnf
        exact .done (fin (x := (160, k)) (by unfold oneF; rw [if_neg (by omega), if_neg (by omega), if_pos h3]))
      conv => whnf
      refine br_intro (fun _ => ?_) (fun h2 => absurd h2 (by simp; omega))
      conv => whnf
      refine br_dec (fun h4 => ?_) (fun h4 => ?_)
      · conv => whnf
        exact .done (fin (x := (162, k)) (by unfold oneF; rw [if_neg (by omega), if_neg (by omega), if_neg h3, if_neg (by simp), if_pos h4]))
      conv => whnf
      refine br_intro (fun h5 => absurd h5 (by simp; omega)) (fun _ => ?_)
      conv => whnf
      refine br_intro (fun h5 => absurd h5 (by simp; omega)) (fun _ => ?_)
      conv => whnf
      refine .ok (by omega) (by omega) ?_
      conv => whnf
      refine .done (.mk _ (hrow B m c (d + 1) k b hF hs hb (by omega) hk) ?_)
      rintro _ _ ⟨rfl, rfl⟩
      conv => whnf
      exact .done (fin (x := findF l.fo (d + 1) k) (by unfold oneF; rw [if_neg (by omega), if_neg (by omega), if_neg h3, if_neg (by simp), if_neg h4]))
theorem row38 : ∀ (N : Nat) (l : Lo), l.cnt < N → l.cnt ≤ 200000 → Row38 l
  | 0, l, hN, _ => absurd hN (Nat.not_lt_zero _)
  | N + 1, l, hN, hc0 => by
    intro A m cap d k b hF hs hb hd hk
    have hm : m ≤ 200000 := by have := hs.1; have := l.len_cnt; omega
    refine Fn.intro (args := [lptr b, .slice A m cap, iv d]) mix16 Try.func40 rfl (by decide) Try.ntmps40 rfl (low40 rfl) rfl ?_
    conv => whnf
    refine .mk (Nat × Nat × Lo) [0, 2, 10, 11, 12] (fun (i, _, _) => [.v (lptr b), .v (iv d), .v (.slice A m cap), .v (iv m), .v (iv i)]) (fun _ => [])
        (fun (i, q, r) h' => h' = hF.put b (ck q) ∧ Tl hF A m i r ∧ q ≤ 2048 ∧ r.cnt ≤ l.cnt ∧ findF l.fo d k = findF r.fo d q) (fun (i, _, _) => m - i) (0, k, l) (fun _ => rfl) ⟨rfl, hs.tl, hk, Nat.le_refl _, rfl⟩ rfl rfl ?_
    rintro ⟨i, q, r⟩ e h' ⟨rfl, ht, hq, hrl, he⟩
    conv => whnf
    refine br_dec (fun h2 => ?_) (fun h2 => ?_)
    · cases r with
      | nil => have := ht.fin; omega
      | cons t w B m' c bb r =>
        obtain ⟨g, hA, hi, hc, hbb, hr⟩ := ht.open
        simp only [Lo.cnt] at hrl
        have hmo : ∀ j v, (lcells t w B m' c)[j]? = some v → (hF.put b (ck q)).cell? ((g.add (i * 3)).add j) = some v := fun j v hv => Hp.cell_le (Hp.le_put hb) (hc j v hv)
        conv => whnf
        refine .mk g hA (by omega) (by omega) ?_
        conv => whnf
        refine .hp (lcells t w B m' c) rfl (by rw [Int.toNat_natCast]; exact hmo) ?_
        conv => whnf
        refine .done (.mk _ (one50 t w B m' c bb (row38 N bb (by omega) (by omega)) d q b hF hbb hb hd hq) ?_)
        rintro _ _ ⟨rfl, rfl⟩
        simp only [Lo.fo, findF] at he
        conv => whnf
        refine br_dec (fun h3 => ?_) (fun h3 => ?_)
        · rw [if_neg h3] at he
          conv => whnf
          refine .done ?_
          rw [he]
          exact ⟨rfl, rfl⟩
        · rw [if_pos (by omega)] at he
          conv => whnf
          refine .ok (by omega) (by omega) ?_
          conv => whnf
          exact ⟨(i + 1, _, r), rfl, rfl, ⟨rfl, hr, oneF_le hq (findF_le _ _ _ hq), by omega, he⟩, by show m - (i + 1) < m - i; omega⟩
    · conv => whnf
      cases r with
      | nil =>
        refine .done ?_
        rw [he]
        exact ⟨rfl, rfl⟩
      | cons => obtain ⟨g, hA, hi, _⟩ := ht.open; omega
end Go.Sx
namespace Go.Sx
open Go.Proofs
set_option maxRecDepth 100000
/-- how many firings -/
def tot : Fo → Nat
  | .nil => 0
  | .cons t _ b r => t.toNat * (bif b.leaf then 1 else tot b) + tot r
/-- every loop goes round at least once -/
def Pos : Fo → Prop
  | .nil => True
  | .cons t _ b r => 1 ≤ t ∧ Pos b ∧ Pos r
theorem findF_pos : ∀ (f : Fo) (d k : Nat), (findF f d k).1 = 0 → Pos f
  | .nil, _, _, _ => trivial
  | .cons t n b r, d, k, h => by
    simp only [findF] at h
    split at h
    · rename_i h1
      refine ⟨?_, ?_, findF_pos r d _ h⟩
      · unfold oneF at h1
        repeat' split at h1
        all_goals first | omega | (simp at h1; done) | skip
      · unfold oneF at h1
        repeat' split at h1
        all_goals first | (simp at h1; done) | skip
        · rename_i hl _
          cases b with
          | nil => trivial
          | cons => simp [Fo.leaf] at hl
        · exact findF_pos b (d + 1) k h1
    · rename_i h1; exact absurd h h1
theorem tot_pos : ∀ (f : Fo), Pos f → f.leaf = false → 1 ≤ tot f
  | .nil, _, h => by simp [Fo.leaf] at h
  | .cons t n b r, ⟨h1, h2, _⟩, _ => by
    simp only [tot]
    have hb : 1 ≤ (bif b.leaf then 1 else tot b) := by
      cases hl : b.leaf with
      | true => exact Nat.le_refl _
      | false => exact tot_pos b h2 hl
    have : 1 * 1 ≤ t.toNat * (bif b.leaf then 1 else tot b) := Nat.mul_le_mul (by omega) hb
    omega
def ins (f : Fo) : Nat := bif f.leaf then 1 else tot f
theorem ins_pos {f : Fo} (h : Pos f) : 1 ≤ ins f := by
  unfold ins
  cases hl : f.leaf with
  | true => exact Nat.le_refl _
  | false => exact tot_pos f h hl
theorem tot_cons (t n : Int) (b r : Fo) : tot (.cons t n b r) = t.toNat * ins b + tot r := rfl
theorem total39 : ∀ (N : Nat) (l : Lo), l.cnt < N → l.cnt ≤ 200000 → Pos l.fo → ∀ (A : Option Addr) (m cap : Nat) (h : Hp), SAt h A m l →
    Fn Try.prog 41 #[.slice A m cap] h fun v h' => h' = h ∧ v = iv (min (tot l.fo) 2049 : Nat)
  | 0, l, hN, _ => absurd hN (Nat.not_lt_zero _)
  | N + 1, l, hN, hc0 => by
    intro hpos A m cap h hs
    have hm : m ≤ 200000 := by have := hs.1; have := l.len_cnt; omega
    refine Fn.intro (args := [.slice A m cap]) mix16 Try.func41 rfl (by decide) Try.ntmps41 rfl (low41 rfl) rfl ?_
    conv => whnf
    refine .mk (Nat × Nat × Lo) [3, 7, 8, 9] (fun (i, s, _) => [.v (iv s), .v (.slice A m cap), .v (iv m), .v (iv i)]) (fun _ => [])
        (fun (i, s, r) h' => h' = h ∧ Tl h A m i r ∧ s ≤ 2048 ∧ r.cnt ≤ l.cnt ∧ Pos r.fo ∧ s + tot r.fo = tot l.fo) (fun (i, _, _) => m - i) (0, 0, l) (fun _ => rfl) ⟨rfl, hs.tl, Nat.zero_le _, Nat.le_refl _, hpos, by omega⟩ rfl rfl ?_
    rintro ⟨i, s, r⟩ e h' ⟨rfl, ht, hq, hrl, hp, he⟩
    conv => whnf
    refine br_dec (fun h2 => ?_) (fun h2 => ?_)
    · cases r with
      | nil => have := ht.fin; omega
      | cons t w B m' c b r =>
        obtain ⟨g, hA, hi, hc, hb, hr⟩ := ht.open
        simp only [Lo.cnt] at hrl
        simp only [Lo.fo] at hp
        obtain ⟨hp1, hp2, hp3⟩ := hp
        obtain ⟨q, rfl⟩ : ∃ q : Nat, t = q := ⟨t.toNat, by omega⟩
        have hins := ins_pos hp2
        have he2 : s + (q * ins b.fo + tot r.fo) = tot l.fo := by
          have := tot_cons q w b.fo r.fo
          simp only [Int.toNat_natCast] at this
          rw [← this]; exact he
        have hbm := hb.1
        -- the end of a round, out of how many there are inside
        conv => whnf
        refine .mk g hA (by omega) (by omega) ?_
        conv => whnf
        refine .hp (lcells q w B m' c) rfl (by rw [Int.toNat_natCast]; exact hc) ?_
        conv => whnf
        refine br_dec (fun h3 => ?_) (fun h3 => ?_)
        · have hlf : b.fo.leaf = false := by rw [b.leaf_len]; exact decide_eq_false (by omega)
          have hie : ins b.fo = tot b.fo := by unfold ins; rw [hlf]; rfl
          conv => whnf
          refine .done (.mk _ (total39 N b (by omega) (by omega) hp2 B m' c h' hb) ?_)
          rintro _ h2 ⟨rfl, rfl⟩
          conv => whnf
          refine br_dec (fun h4 => ?_) (fun h4 => ?_)
          · conv => whnf
            refine .done ⟨rfl, ?_⟩
            have : q * 1 ≤ q * ins b.fo := Nat.mul_le_mul_left _ hins
            rw [show min (tot l.fo) 2049 = 2049 by omega]
            rfl
          conv => whnf
          refine br_dec (fun h5 => ?_) (fun h5 => ?_)
          · conv => whnf
            refine .done ⟨rfl, ?_⟩
            have : 1 * ins b.fo ≤ q * ins b.fo := Nat.mul_le_mul_right _ (by omega)
            rw [show min (tot l.fo) 2049 = 2049 by omega]
            rfl
          have hmin : min (tot b.fo) 2049 = ins b.fo := by omega
          have hb2 : q * ins b.fo ≤ 2048 * 2048 := Nat.mul_le_mul (by omega) (by omega)
          have hz : ((min (tot b.fo) 2049 : Nat) : Int) * (q : Int) = ((q * ins b.fo : Nat) : Int) := by rw [hmin, Nat.mul_comm]; exact (Int.natCast_mul _ _).symm
          conv => whnf
          refine .ok (by rw [hz]; omega) (by rw [hz]; omega) ?_
          rw [hz]
          conv => whnf
          refine .ok (by omega) (by omega) ?_
          conv => whnf
          refine br_dec (fun h6 => ?_) (fun h6 => ?_)
          · conv => whnf
            refine .done ⟨rfl, ?_⟩
            rw [show min (tot l.fo) 2049 = 2049 by omega]
            rfl
          · conv => whnf
            refine .ok (by omega) (by omega) ?_
            conv => whnf
            exact ⟨(i + 1, s + q * ins b.fo, r), rfl, rfl, ⟨rfl, hr, by omega, by omega, hp3, by omega⟩, by show m - (i + 1) < m - i; omega⟩
        · have hlf : b.fo.leaf = true := by rw [b.leaf_len]; exact decide_eq_true (by omega)
          have hie : ins b.fo = 1 := by unfold ins; rw [hlf]; rfl
          rw [hie] at he2
          conv => whnf
          refine br_dec (fun h4 => ?_) (fun h4 => ?_)
          · conv => whnf
            refine .done ⟨rfl, ?_⟩
            rw [show min (tot l.fo) 2049 = 2049 by omega]
            rfl
          conv => whnf
          have hz : (1 : Int) * (q : Int) = (q : Int) := Int.one_mul _
          refine .ok (by omega) (by omega) ?_
          conv => whnf
          refine .ok (by omega) (by omega) ?_
          conv => whnf
          refine br_dec (fun h6 => ?_) (fun h6 => ?_)
          · conv => whnf
            refine .done ⟨rfl, ?_⟩
            rw [show min (tot l.fo) 2049 = 2049 by omega]
            rfl
          · conv => whnf
            refine .ok (by omega) (by omega) ?_
            conv => whnf
            refine ⟨(i + 1, s + q, r), ?_, rfl, ⟨rfl, hr, by omega, by omega, hp3, by omega⟩, by show m - (i + 1) < m - i; omega⟩
            rw [show ((s : Int) + 1 * (q : Int)) = ((s + q : Nat) : Int) by omega]
            rfl
    · conv => whnf
      cases r with
      | nil =>
        refine .done ⟨rfl, ?_⟩
        simp only [Lo.fo, tot] at he
        rw [← he, show min (s + 0) 2049 = s by omega]
        rfl
      | cons => obtain ⟨g, hA, hi, _⟩ := ht.open; omega
end Go.Sx
namespace Go.Sx
open Go.Proofs
set_option maxRecDepth 100000
theorem div_lt {x q : Nat} (hx : 1 ≤ x) : (2048 : Int).tdiv (x : Int) = ((2048 / x : Nat) : Int) ∧ (2048 / x < q ↔ 2048 < q * x) ∧ 2048 / x ≤ 2048 := by
  refine ⟨(Int.ofNat_tdiv 2048 x).symm, Nat.div_lt_iff_lt_mul hx, Nat.div_le_self _ _⟩
theorem total41 : ∀ (N : Nat) (l : Lo), l.cnt < N → l.cnt ≤ 200000 → Pos l.fo → ∀ (A : Option Addr) (m cap : Nat) (h : Hp), SAt h A m l →
    Fn Try.prog 49 #[.slice A m cap] h fun v h' => h' = h ∧ v = iv (min (tot l.fo) 2049 : Nat)
  | 0, l, hN, _ => absurd hN (Nat.not_lt_zero _)
  | N + 1, l, hN, hc0 => by
    intro hpos A m cap h hs
    have hm : m ≤ 200000 := by have := hs.1; have := l.len_cnt; omega
    refine Fn.intro (args := [.slice A m cap]) mix16 Try.func49 rfl (by decide) Try.ntmps49 rfl (low49 rfl) rfl ?_
    conv => whnf
    refine .mk (Nat × Nat × Lo) [0, 3, 4] (fun (i, s, _) => [.v (.slice A m cap), .v (iv s), .v (iv i)]) (fun _ => [])
        (fun (i, s, r) h' => h' = h ∧ Tl h A m i r ∧ s ≤ 2048 ∧ r.cnt ≤ l.cnt ∧ Pos r.fo ∧ s + tot r.fo = tot l.fo) (fun (i, _, _) => m - i) (0, 0, l) (fun _ => rfl) ⟨rfl, hs.tl, Nat.zero_le _, Nat.le_refl _, hpos, by omega⟩ rfl rfl ?_
    rintro ⟨i, s, r⟩ e h' ⟨rfl, ht, hq, hrl, hp, he⟩
    conv => whnf
    refine br_dec (fun h2 => ?_) (fun h2 => ?_)
    · cases r with
      | nil => have := ht.fin; omega
      | cons t w B m' c b r =>
        obtain ⟨g, hA, hi, hc, hb, hr⟩ := ht.open
        simp only [Lo.cnt] at hrl
        simp only [Lo.fo] at hp
        obtain ⟨hp1, hp2, hp3⟩ := hp
        obtain ⟨q, rfl⟩ : ∃ q : Nat, t = q := ⟨t.toNat, by omega⟩
        have hins := ins_pos hp2
        have he2 : s + (q * ins b.fo + tot r.fo) = tot l.fo := by
          have := tot_cons q w b.fo r.fo
          simp only [Int.toNat_natCast] at this
          rw [← this]; exact he
        have hbm := hb.1
        have c0 : h'.cell? ((g.add (i * 3)).add 0) = some (iv q) := hc 0 _ rfl
        have c2 : h'.cell? ((g.add (i * 3)).add 2) = some (.slice B m' c) := hc 2 _ rfl
        conv => whnf
        refine .mk g hA (by omega) (by omega) ?_
        conv => whnf
        refine .hp _ (by rw [Int.toNat_natCast]; exact c2) ?_
        conv => whnf
        refine br_dec (fun h3 => ?_) (fun h3 => ?_)
        · have hlf : b.fo.leaf = false := by rw [b.leaf_len]; exact decide_eq_false (by omega)
          have hie : ins b.fo = tot b.fo := by unfold ins; rw [hlf]; rfl
          conv => whnf
          refine .mk g hA (by omega) (by omega) ?_
          conv => whnf
          refine .hp _ (by rw [Int.toNat_natCast]; exact c2) ?_
          conv => whnf
          refine .done (.mk _ (total41 N b (by omega) (by omega) hp2 B m' c h' hb) ?_)
          rintro _ h2 ⟨rfl, rfl⟩
          conv => whnf
          refine br_dec (fun h4 => ?_) (fun h4 => ?_)
          · conv => whnf
            refine .done ⟨rfl, ?_⟩
            have : 1 * ins b.fo ≤ q * ins b.fo := Nat.mul_le_mul_right _ (by omega)
            rw [show min (tot l.fo) 2049 = 2049 by omega]
            rfl
          have hmin : min (tot b.fo) 2049 = ins b.fo := by omega
          rw [hmin]
          obtain ⟨D, d1, d2, d3⟩ : ∃ D : Nat, (2048 : Int).tdiv ((ins b.fo : Nat) : Int) = (D : Int) ∧ (D < q ↔ 2048 < q * ins b.fo) ∧ D ≤ 2048 := ⟨_, div_lt hins⟩
          conv => whnf
          refine .mk g hA (by omega) (by omega) ?_
          conv => whnf
          refine .hp _ (by rw [Int.toNat_natCast]; exact c0) ?_
          conv => whnf
          refine .mk (by omega) (.ok (by rw [d1]; omega) (by rw [d1]; omega) ?_)
          rw [d1]
          conv => whnf
          refine br_dec (fun h5 => ?_) (fun h5 => ?_)
          · conv => whnf
            refine .done ⟨rfl, ?_⟩
            have : 2048 < q * ins b.fo := d2.1 (by omega)
            rw [show min (tot l.fo) 2049 = 2049 by omega]
            rfl
          have hb2 : q * ins b.fo ≤ 2048 := by
            have : ¬ (2048 < q * ins b.fo) := fun hh => absurd (d2.2 hh) (by omega)
            omega
          have hz : (q : Int) * ((ins b.fo : Nat) : Int) = ((q * ins b.fo : Nat) : Int) := (Int.natCast_mul _ _).symm
          conv => whnf
          refine .mk g hA (by omega) (by omega) ?_
          conv => whnf
          refine .hp _ (by rw [Int.toNat_natCast]; exact c0) ?_
          conv => whnf
          refine .ok (by rw [hz]; omega) (by rw [hz]; omega) ?_
          rw [hz]
          conv => whnf
          refine .ok (by omega) (by omega) ?_
          conv => whnf
          refine br_dec (fun h6 => ?_) (fun h6 => ?_)
          · conv => whnf
            refine .done ⟨rfl, ?_⟩
            rw [show min (tot l.fo) 2049 = 2049 by omega]
            rfl
          · conv => whnf
            refine .ok (by omega) (by omega) ?_
            conv => whnf
            exact ⟨(i + 1, s + q * ins b.fo, r), rfl, rfl, ⟨rfl, hr, by omega, by omega, hp3, by omega⟩, by show m - (i + 1) < m - i; omega⟩
        · have hlf : b.fo.leaf = true := by rw [b.leaf_len]; exact decide_eq_true (by omega)
          have hie : ins b.fo = 1 := by unfold ins; rw [hlf]; rfl
          rw [hie] at he2
          conv => whnf
          refine .mk g hA (by omega) (by omega) ?_
          conv => whnf
          refine .hp _ (by rw [Int.toNat_natCast]; exact c0) ?_
          conv => whnf
          refine .mk (by omega) (.ok (by decide) (by decide) ?_)
          conv => whnf
          refine br_dec (fun h4 => ?_) (fun h4 => ?_)
          · have h4 : (2048 : Int) < q := h4
            conv => whnf
            refine .done ⟨rfl, ?_⟩
            rw [show min (tot l.fo) 2049 = 2049 by omega]
            rfl
          have h4 : ¬ (2048 : Int) < q := h4
          conv => whnf
          refine .mk g hA (by omega) (by omega) ?_
          conv => whnf
          refine .hp _ (by rw [Int.toNat_natCast]; exact c0) ?_
          conv => whnf
          refine .ok (by omega) (by omega) ?_
          conv => whnf
          refine .ok (by omega) (by omega) ?_
          conv => whnf
          refine br_dec (fun h6 => ?_) (fun h6 => ?_)
          · conv => whnf
            refine .done ⟨rfl, ?_⟩
            rw [show min (tot l.fo) 2049 = 2049 by omega]
            rfl
          · conv => whnf
            refine .ok (by omega) (by omega) ?_
            conv => whnf
            refine ⟨(i + 1, s + q, r), ?_, rfl, ⟨rfl, hr, by omega, by omega, hp3, by omega⟩, by show m - (i + 1) < m - i; omega⟩
            rw [show ((s : Int) + (q : Int) * 1) = ((s + q : Nat) : Int) by omega]
            rfl
    · conv => whnf
      cases r with
      | nil =>
        refine .done ⟨rfl, ?_⟩
        simp only [Lo.fo, tot] at he
        rw [← he, show min (s + 0) 2049 = s by omega]
        rfl
      | cons => obtain ⟨g, hA, hi, _⟩ := ht.open; omega
theorem find40 : ∀ (N : Nat) (l : Lo), l.cnt < N → l.cnt ≤ 200000 → ∀ (A : Option Addr) (m cap d k : Nat) (h : Hp), SAt h A m l → d ≤ 16 → k ≤ 2048 →
    Fn Try.prog 48 #[.slice A m cap, iv d, iv k] h fun v h' => h' = h ∧ v = .tuple #[iv (findF l.fo d k).1, iv (findF l.fo d k).2]
  | 0, l, hN, _ => absurd hN (Nat.not_lt_zero _)
  | N + 1, l, hN, hc0 => by
    intro A m cap d k h hs hd hk
    have hm : m ≤ 200000 := by have := hs.1; have := l.len_cnt; omega
    refine Fn.intro (args := [.slice A m cap, iv d, iv k]) mix16 Try.func48 rfl (by decide) Try.ntmps48 rfl (low48 rfl) rfl ?_
    conv => whnf
    refine .mk (Nat × Nat × Lo) [0, 1, 2, 8] (fun (i, q, _) => [.v (.slice A m cap), .v (iv d), .v (iv q), .v (iv i)]) (fun _ => [])
        (fun (i, q, r) h' => h' = h ∧ Tl h A m i r ∧ q ≤ 2048 ∧ r.cnt ≤ l.cnt ∧ findF l.fo d k = findF r.fo d q) (fun (i, _, _) => m - i) (0, k, l) (fun _ => rfl) ⟨rfl, hs.tl, hk, Nat.le_refl _, rfl⟩ rfl rfl ?_
    rintro ⟨i, q, r⟩ e h' ⟨rfl, ht, hq, hrl, he⟩
    conv => whnf
    refine br_dec (fun h2 => ?_) (fun h2 => ?_)
    · cases r with
      | nil => have := ht.fin; omega
      | cons t w B m' c b r =>
        obtain ⟨g, hA, hi, hc, hb, hr⟩ := ht.open
        simp only [Lo.cnt] at hrl
        simp only [Lo.fo, findF] at he
        have hbm := hb.1
        have hlf := b.leaf_len
        -- what is answered where one() is known
        have stop : ∀ {z : Int}, z ≠ 0 → oneF t w b.fo.leaf d q (findF b.fo (d + 1) q) = (z, q) → findF l.fo d k = (z, q) := fun hz h1 => by
          rw [he, h1, if_neg hz]
        have goon : ∀ {q' : Nat}, oneF t w b.fo.leaf d q (findF b.fo (d + 1) q) = (0, q') → findF l.fo d k = findF r.fo d q' := fun h1 => by
          rw [he, h1, if_pos rfl]
        conv => whnf
        refine .mk g hA (by omega) (by omega) ?_
        conv => whnf
        refine .hp (lcells t w B m' c) rfl (by rw [Int.toNat_natCast]; exact hc) ?_
        conv => whnf
        refine br_dec (fun h3 => ?_) (fun h3 => ?_)
        · conv => whnf
          refine .done ⟨rfl, ?_⟩
          rw [stop (z := 5) (by decide) (by unfold oneF; rw [if_pos (by omega)])]
          rfl
        conv => whnf
        refine br_dec (fun h4 => ?_) (fun h4 => ?_)
        · have hlf2 : b.fo.leaf = false := by rw [hlf]; exact decide_eq_false (by omega)
          conv => whnf
          refine .ok (by omega) (by omega) ?_
          conv => whnf
          refine br_dec (fun h5 => ?_) (fun h5 => ?_)
          · conv => whnf
            refine .done ⟨rfl, ?_⟩
            rw [stop (z := 161) (by decide) (by unfold oneF; rw [if_neg (by omega), if_pos ⟨hlf2, by omega⟩])]
            rfl
          conv => whnf
          refine br_dec (fun h6 => ?_) (fun h6 => ?_)
          · conv => whnf
            refine .done ⟨rfl, ?_⟩
            rw [stop (z := 160) (by decide) (by unfold oneF; rw [if_neg (by omega), if_neg (by omega), if_pos h6])]
            rfl
          conv => whnf
          refine br_dec (fun h7 => absurd h7 (by omega)) (fun h7 => ?_)
          conv => whnf
          refine br_dec (fun h8 => ?_) (fun h8 => ?_)
          · conv => whnf
            refine .done ⟨rfl, ?_⟩
            rw [stop (z := 162) (by decide) (by unfold oneF; rw [if_neg (by omega), if_neg (by omega), if_neg h6, if_neg (by rw [hlf2]; simp), if_pos h8])]
            rfl
          have honeF : oneF t w b.fo.leaf d q (findF b.fo (d + 1) q) = findF b.fo (d + 1) q := by
            unfold oneF; rw [if_neg (by omega), if_neg (by omega), if_neg h6, if_neg (by rw [hlf2]; simp), if_neg h8]
          conv => whnf
          refine .ok (by omega) (by omega) ?_
          conv => whnf
          refine .done (.mk _ (find40 N b (by omega) (by omega) B m' c (d + 1) q h' hb (by omega) hq) ?_)
          rintro _ h2 ⟨rfl, rfl⟩
          conv => whnf
          refine br_dec (fun h9 => ?_) (fun h9 => ?_)
          · conv => whnf
            refine .done ⟨rfl, ?_⟩
            rw [he, honeF, if_neg h9]
            rfl
          · have h9 : (findF b.fo (d + 1) q).1 = 0 := by omega
            conv => whnf
            refine .ok (by omega) (by omega) ?_
            conv => whnf
            exact ⟨(i + 1, (findF b.fo (d + 1) q).2, r), rfl, rfl, ⟨rfl, hr, findF_le _ _ _ hq, by omega, goon (by rw [honeF]; exact Prod.ext h9 rfl)⟩, by show m - (i + 1) < m - i; omega⟩
        · have hlf2 : b.fo.leaf = true := by rw [hlf]; exact decide_eq_true (by omega)
          conv => whnf
          refine br_dec (fun h6 => ?_) (fun h6 => ?_)
          · conv => whnf
            refine .done ⟨rfl, ?_⟩
            rw [stop (z := 160) (by decide) (by unfold oneF; rw [if_neg (by omega), if_neg (by rw [hlf2]; simp), if_pos h6])]
            rfl
          conv => whnf
          refine br_dec (fun h7 => ?_) (fun h7 => absurd h7 (by omega))
          have node : w < 0 ∨ 32 ≤ w → findF l.fo d k = (100, q) := fun hh => stop (by decide) (by unfold oneF; rw [if_neg (by omega), if_neg (by rw [hlf2]; simp), if_neg h6, if_pos hlf2, if_pos hh])
          conv => whnf
          refine br_dec (fun h8 => ?_) (fun h8 => ?_)
          · conv => whnf
            refine .done ⟨rfl, ?_⟩
            rw [node (.inl h8)]
            rfl
          conv => whnf
          refine br_dec (fun h9 => ?_) (fun h9 => ?_)
          · conv => whnf
            refine .done ⟨rfl, ?_⟩
            rw [node (.inr h9)]
            rfl
          conv => whnf
          refine .ok (by omega) (by omega) ?_
          conv => whnf
          refine .ok (by omega) (by omega) ?_
          conv => whnf
          exact ⟨(i + 1, q + 1, r), rfl, rfl, ⟨rfl, hr, by omega, by omega, goon (by unfold oneF; rw [if_neg (by omega), if_neg (by rw [hlf2]; simp), if_neg h6, if_pos hlf2, if_neg (by omega)])⟩, by show m - (i + 1) < m - i; omega⟩
    · conv => whnf
      cases r with
      | nil =>
        refine .done ⟨rfl, ?_⟩
        rw [he]
        rfl
      | cons => obtain ⟨g, hA, hi, _⟩ := ht.open; omega
/-- what is wrong with a nest -/
def checkF (f : Fo) : Int := if (findF f 0 0).1 ≠ 0 then (findF f 0 0).1 else if 2048 < tot f then 5 else 0
theorem check17 (l : Lo) (hc : l.cnt ≤ 200000) (A : Option Addr) (m cap : Nat) (h : Hp) (hs : SAt h A m l) :
    Fn Try.prog 23 #[.slice A m cap] h fun v h' => h.le h' ∧ v = iv (checkF l.fo) := by
  refine Fn.intro (args := [.slice A m cap]) mix16 Try.func23 rfl (by decide) Try.ntmps23 rfl (low23 rfl) rfl ?_
  conv => whnf
  refine .mk fun b hb => ?_
  conv => whnf
  refine .done (.mk _ (row38 _ l (Nat.lt_succ_self _) hc A m cap 0 0 b h hs hb (by omega) (by omega)) ?_)
  rintro _ h' ⟨rfl, rfl⟩
  have hle : h.le (h.put b (ck (findF l.fo 0 0).2)) := Hp.le_put hb
  conv => whnf
  refine br_dec (fun h1 => ?_) (fun h1 => ?_)
  · conv => whnf
    refine .done ⟨hle, ?_⟩
    unfold checkF
    rw [if_pos h1]
    rfl
  · have h1' : ¬ (findF l.fo 0 0).1 ≠ 0 := h1
    conv => whnf
    refine .done (.mk _ (total39 _ l (Nat.lt_succ_self _) hc (findF_pos _ _ _ (Decidable.of_not_not h1')) A m cap _ (hs.mono hle)) ?_)
    rintro _ h' ⟨rfl, rfl⟩
    conv => whnf
    refine br_dec (fun h2 => ?_) (fun h2 => ?_)
    · conv => whnf
      refine .done ⟨hle, ?_⟩
      unfold checkF
      rw [if_neg h1', if_pos (by omega)]
      rfl
    · conv => whnf
      refine .done ⟨hle, ?_⟩
      unfold checkF
      rw [if_neg h1', if_neg (by omega)]
      rfl
theorem check18 (l : Lo) (hc : l.cnt ≤ 200000) (A : Option Addr) (m cap : Nat) (h : Hp) (hs : SAt h A m l) :
    Fn Try.prog 36 #[.slice A m cap] h fun v h' => h' = h ∧ v = iv (checkF l.fo) := by
  refine Fn.intro (args := [.slice A m cap]) mix16 Try.func36 rfl (by decide) Try.ntmps36 rfl (low36 rfl) rfl ?_
  conv => whnf
  refine .done (.mk _ (find40 _ l (Nat.lt_succ_self _) hc A m cap 0 0 h hs (by omega) (by omega)) ?_)
  rintro _ h' ⟨rfl, rfl⟩
  conv => whnf
  refine br_dec (fun h1 => ?_) (fun h1 => ?_)
  · conv => whnf
    refine .done ⟨rfl, ?_⟩
    unfold checkF
    rw [if_pos h1]
    rfl
  · have h1' : ¬ (findF l.fo 0 0).1 ≠ 0 := h1
    conv => whnf
    refine .done (.mk _ (total41 _ l (Nat.lt_succ_self _) hc (findF_pos _ _ _ (Decidable.of_not_not h1')) A m cap _ hs) ?_)
    rintro _ h' ⟨rfl, rfl⟩
    conv => whnf
    refine br_dec (fun h2 => ?_) (fun h2 => ?_)
    · conv => whnf
      refine .done ⟨rfl, ?_⟩
      unfold checkF
      rw [if_neg h1', if_pos (by omega)]
      rfl
    · conv => whnf
      refine .done ⟨rfl, ?_⟩
      unfold checkF
      rw [if_neg h1', if_neg (by omega)]
      rfl
end Go.Sx
namespace Go.Sx
open Go.Proofs
set_option maxRecDepth 100000
/-- leaves -/
def firs : Fo → Nat
  | .nil => 0
  | .cons _ _ b r => (bif b.leaf then 1 else firs b) + firs r
def heads : Fo → Nat
  | .nil => 0
  | .cons t _ b r => (if 1 < t then 1 else 0) + heads b + heads r
def deep : Fo → Nat
  | .nil => 0
  | .cons _ _ b r => max (bif b.leaf then 0 else deep b + 1) (deep r)
theorem firs_cnt : ∀ f : Fo, firs f ≤ f.cnt
  | .nil => Nat.le_refl _
  | .cons _ _ b r => by
    have h1 := firs_cnt b
    have h2 := firs_cnt r
    simp only [firs, Fo.cnt]
    cases b.leaf <;> simp <;> omega
theorem heads_cnt : ∀ f : Fo, heads f ≤ f.cnt
  | .nil => Nat.le_refl _
  | .cons t _ b r => by
    have h1 := heads_cnt b
    have h2 := heads_cnt r
    simp only [heads, Fo.cnt]
    split <;> omega
theorem deep_cnt : ∀ f : Fo, deep f ≤ f.cnt
  | .nil => Nat.le_refl _
  | .cons _ _ b r => by
    have h1 := deep_cnt b
    have h2 := deep_cnt r
    simp only [deep, Fo.cnt]
    cases b.leaf <;> simp <;> omega
theorem leaf_nil {f : Fo} (h : f.leaf = true) : f = .nil := by
  cases f with
  | nil => rfl
  | cons => simp [Fo.leaf] at h
def sizeV (a b c d : Nat) : List Value := [iv a, iv b, iv c, iv d]
theorem imax (a b : Nat) : max (a : Int) (b : Int) = ((max a b : Nat) : Int) := by omega
end Go.Sx
