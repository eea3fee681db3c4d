/- Checking a nest: what the code does. Conditions: none. -/
import Derived.Test.YtnfmbjeicloemaaN16A
namespace Go.Sx
open Go.Proofs
def Fo.leaf : Fo → Bool
  | .nil => true
  | .cons .. => false
theorem Lo.leaf_len (l : Lo) : l.fo.leaf = decide (l.len = 0) := by cases l <;> simp [Lo.fo, Fo.leaf, Lo.len]
/-- one loop: what is wrong with it, and how many leaves stand ahead of what comes behind -/
def oneF (t n : Int) (lf : Bool) (d k : Nat) (rb : Int × Nat) : Int × Nat :=
  if 2048 ≤ k then (5, k) else if lf = false ∧ 16 ≤ d then (161, k) else if t < 1 then (160, k) else if lf = true then (if n < 0 ∨ 32 ≤ n then (100, k) else (0, k + 1)) else if n ≠ 0 then (162, k) else rb
def findF : Fo → Nat → Nat → Int × Nat
  | .nil, _, k => (0, k)
  | .cons t n b r, d, k => if (oneF t n b.leaf d k (findF b (d + 1) k)).1 = 0 then findF r d (oneF t n b.leaf d k (findF b (d + 1) k)).2 else oneF t n b.leaf d k (findF b (d + 1) k)
theorem oneF_le {t n : Int} {lf : Bool} {d k : Nat} {rb : Int × Nat} (hk : k ≤ 2048) (hb : rb.2 ≤ 2048) : (oneF t n lf d k rb).2 ≤ 2048 := by
  unfold oneF
  repeat' split
  all_goals first | exact hk | exact hb | (show k + 1 ≤ 2048; omega)
theorem findF_le : ∀ (f : Fo) (d k : Nat), k ≤ 2048 → (findF f d k).2 ≤ 2048
  | .nil, _, _, h => h
  | .cons t n b r, d, k, h => by
    have h1 := oneF_le (t := t) (n := n) (lf := b.leaf) (d := d) (rb := findF b (d + 1) k) h (findF_le b (d + 1) k h)
    simp only [findF]
    split
    · exact findF_le r d _ h1
    · exact h1
abbrev ck (k : Nat) : Obj := .cells [iv k].toArray 63 (0, 0)
def lptr (b : Nat) : Value := .pointer (some ⟨b, 0, none⟩)
theorem Hp.put_put (h : Hp) (b : Nat) (o o' : Obj) : (h.put b o).put b o' = h.put b o' := by
  funext j; unfold Hp.put; split <;> rfl
theorem ck_cell (h : Hp) (b k : Nat) : (h.put b (ck k)).cell? ⟨b, 0, none⟩ = some (iv k) := by
  unfold Hp.cell?; simp [Hp.put_same]
def Row38 (l : Lo) : Prop := ∀ (A : Option Addr) (m cap d k b : Nat) (hF : Hp), SAt hF A m l → hF b = none → d ≤ 16 → k ≤ 2048 →
    Fn Try.prog 38 #[lptr b, .slice A m cap, iv d] (hF.put b (ck k)) fun v h' => v = iv (findF l.fo d k).1 ∧ h' = hF.put b (ck (findF l.fo d k).2)
theorem one50 (t n : Int) (B : Option Addr) (m c : Nat) (l : Lo) (hrow : Row38 l) (d k b : Nat) (hF : Hp) (hs : SAt hF B m l) (hb : hF b = none) (hd : d ≤ 16) (hk : k ≤ 2048) :
    Fn Try.prog 50 #[lptr b, .agg (lcells t n B m c).toArray, iv d] (hF.put b (ck k)) fun v h' => v = iv (oneF t n l.fo.leaf d k (findF l.fo (d + 1) k)).1 ∧ h' = hF.put b (ck (oneF t n l.fo.leaf d k (findF l.fo (d + 1) k)).2) := by
  have hm := hs.1
  rw [l.leaf_len]
  refine Fn.intro (args := [lptr b, .agg (lcells t n B m c).toArray, iv d]) mix16 Try.func50 rfl (by decide) Try.ntmps50 rfl (low50 rfl) rfl ?_
  conv => whnf
  refine .hp _ (ck_cell hF b k) ?_
  conv => whnf
  refine br_dec (fun h1 => ?_) (fun h1 => ?_)
  · conv => whnf
    exact .done (by unfold oneF; rw [if_pos (by omega)]; exact ⟨rfl, rfl⟩)
  · have fin : ∀ {x : Int × Nat}, oneF t n (decide (l.len = 0)) d k (findF l.fo (d + 1) k) = x → (iv x.1 = iv (oneF t n (decide (l.len = 0)) d k (findF l.fo (d + 1) k)).1 ∧ hF.put b (ck x.2) = hF.put b (ck (oneF t n (decide (l.len = 0)) d k (findF l.fo (d + 1) k)).2)) := by
      rintro x rfl; exact ⟨rfl, rfl⟩
    rcases Nat.eq_zero_or_pos m with h0 | h0
    · subst h0
      rw [show decide (l.len = 0) = true from decide_eq_true hm.symm] at fin ⊢
      conv => whnf
      refine br_dec (fun h3 => ?_) (fun h3 => ?_)
      · conv => whnf
        exact .done (fin (x := (160, k)) (by unfold oneF; rw [if_neg (by omega), if_neg (by simp), if_pos h3]))
      have node : n < 0 ∨ 32 ≤ n → oneF t n true d k (findF l.fo (d + 1) k) = (100, k) := fun hh => by
        unfold oneF; rw [if_neg (by omega), if_neg (by simp), if_neg h3, if_pos rfl, if_pos hh]
      conv => whnf
      refine br_dec (fun h4 => ?_) (fun h4 => ?_)
      · conv => whnf
        exact .done (fin (node (.inl h4)))
      conv => whnf
      refine br_dec (fun h5 => ?_) (fun h5 => ?_)
      · conv => whnf
        exact .done (fin (node (.inr h5)))
      conv => whnf
      refine .hp _ (ck_cell hF b k) ?_
      conv => whnf
      refine .ok (by omega) (by omega) ?_
      conv => whnf
      refine .hp b 0 63 [iv k] [iv ((k : Int) + 1)] rfl (Hp.put_same _ _ _) rfl ?_
      conv => whnf
      refine .done ?_
      rw [Hp.put_put]
      exact fin (x := (0, k + 1)) (by unfold oneF; rw [if_neg (by omega), if_neg (by simp), if_neg h3, if_pos rfl, if_neg (by omega)])
    · rw [show decide (l.len = 0) = false from decide_eq_false (by omega)] at fin ⊢
      conv => whnf
      refine br_intro (fun _ => ?_) (fun h2 => absurd h2 (by simp; omega))
      conv => whnf
      refine br_dec (fun h2 => ?_) (fun h2 => ?_)
      · conv => whnf
        exact .done (fin (x := (161, k)) (by unfold oneF; rw [if_neg (by omega), if_pos ⟨rfl, by omega⟩]))
      conv => whnf
      refine br_dec (fun h3 => ?_) (fun h3 => ?_)
      · conv => whnf
        exact .done (fin (x := (160, k)) (by unfold oneF; rw [if_neg (by omega), if_neg (by omega), if_pos h3]))
      conv => whnf
      refine br_intro (fun _ => ?_) (fun h2 => absurd h2 (by simp; omega))
      conv => whnf
      refine br_dec (fun h4 => ?_) (fun h4 => ?_)
      · conv => whnf
        exact .done (fin (x := (162, k)) (by unfold oneF; rw [if_neg (by omega), if_neg (by omega), if_neg h3, if_neg (by simp), if_pos h4]))
      conv => whnf
      refine br_intro (fun h5 => absurd h5 (by simp; omega)) (fun _ => ?_)
      conv => whnf
      refine br_intro (fun h5 => absurd h5 (by simp; omega)) (fun _ => ?_)
      conv => whnf
      refine .ok (by omega) (by omega) ?_
      conv => whnf
      refine .done (.mk _ (hrow B m c (d + 1) k b hF hs hb (by omega) hk) ?_)
      rintro _ _ ⟨rfl, rfl⟩
      conv => whnf
      exact .done (fin (x := findF l.fo (d + 1) k) (by unfold oneF; rw [if_neg (by omega), if_neg (by omega), if_neg h3, if_neg (by simp), if_neg h4]))
theorem row38 : ∀ (N : Nat) (l : Lo), l.cnt < N → l.cnt ≤ 200000 → Row38 l
  | 0, l, hN, _ => absurd hN (Nat.not_lt_zero _)
  | N + 1, l, hN, hc0 => by
    intro A m cap d k b hF hs hb hd hk
    have hm : m ≤ 200000 := by have := hs.1; have := l.len_cnt; omega
    refine Fn.intro (args := [lptr b, .slice A m cap, iv d]) mix16 Try.func38 rfl (by decide) Try.ntmps38 rfl (low38 rfl) rfl ?_
    conv => whnf
    refine .mk (Nat × Nat × Lo) [0, 2, 10, 11, 12] (fun (i, _, _) => [.v (lptr b), .v (iv d), .v (.slice A m cap), .v (iv m), .v (iv i)]) (fun _ => [])
        (fun (i, q, r) h' => h' = hF.put b (ck q) ∧ Tl hF A m i r ∧ q ≤ 2048 ∧ r.cnt ≤ l.cnt ∧ findF l.fo d k = findF r.fo d q) (fun (i, _, _) => m - i) (0, k, l) (fun _ => rfl) ⟨rfl, hs.tl, hk, Nat.le_refl _, rfl⟩ rfl rfl ?_
    rintro ⟨i, q, r⟩ e h' ⟨rfl, ht, hq, hrl, he⟩
    conv => whnf
    refine br_dec (fun h2 => ?_) (fun h2 => ?_)
    · cases r with
      | nil => have := ht.fin; omega
      | cons t w B m' c bb r =>
        obtain ⟨g, hA, hi, hc, hbb, hr⟩ := ht.open
        simp only [Lo.cnt] at hrl
        have hmo : ∀ j v, (lcells t w B m' c)[j]? = some v → (hF.put b (ck q)).cell? ((g.add (i * 3)).add j) = some v := fun j v hv => Hp.cell_le (Hp.le_put hb) (hc j v hv)
        conv => whnf
        refine .mk g hA (by omega) (by omega) ?_
        conv => whnf
        refine .hp (lcells t w B m' c) rfl (by rw [Int.toNat_natCast]; exact hmo) ?_
        conv => whnf
        refine .done (.mk _ (one50 t w B m' c bb (row38 N bb (by omega) (by omega)) d q b hF hbb hb hd hq) ?_)
        rintro _ _ ⟨rfl, rfl⟩
        simp only [Lo.fo, findF] at he
        conv => whnf
        refine br_dec (fun h3 => ?_) (fun h3 => ?_)
        · rw [if_neg h3] at he
          conv => whnf
          refine .done ?_
          rw [he]
          exact ⟨rfl, rfl⟩
        · rw [if_pos (by omega)] at he
          conv => whnf
          refine .ok (by omega) (by omega) ?_
          conv => whnf
          exact ⟨(i + 1, _, r), rfl, rfl, ⟨rfl, hr, oneF_le hq (findF_le _ _ _ hq), by omega, he⟩, by show m - (i + 1) < m - i; omega⟩
    · conv => whnf
      cases r with
      | nil =>
        refine .done ?_
        rw [he]
        exact ⟨rfl, rfl⟩
      | cons => obtain ⟨g, hA, hi, _⟩ := ht.open; omega
end Go.Sx
