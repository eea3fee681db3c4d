/- Nests copied. Conditions: none. -/
import Derived.Test.YtnfmbjeicloemaaN16F
namespace Go.Sx
open Go.Proofs
theorem RowAt.mono {h h' : Hp} {ety size n cap : Nat} {A : Option Addr} {xs : List Value} (x : RowAt h ety size A n cap xs) (hle : h.le h') : RowAt h' ety size A n cap xs := by
  obtain ⟨h1, h2⟩ := x
  exact ⟨h1, h2.imp id fun ⟨g, cur, e1, e2, e3⟩ => ⟨g, cur, e1, hle _ _ e2, e3⟩⟩
theorem delA_none {h0 h : Hp} {B : Option Addr} (hle : h0.le h) (hn : ∀ g, B = some g → h0 g.block = none) : h0.le (delA h B) := by
  cases B with
  | none => exact hle
  | some g =>
    intro j o e
    rw [delA, Hp.del_ne _ (fun q => by subst q; rw [hn g rfl] at e; cases e)]
    exact hle j o e
theorem delA_le (h : Hp) (B : Option Addr) : (delA h B).le h := by
  cases B with
  | none => exact Hp.le_refl h
  | some g => exact Hp.del_le h _
/-- what is new -/
def Hp.sub (h' h : Hp) : Hp := fun j => match h j with
  | none => h' j
  | some _ => none
theorem Hp.sub_le (h' h : Hp) : (h'.sub h).le h' := fun j o e => by
  unfold Hp.sub at e
  split at e
  · exact e
  · cases e
theorem Hp.sub_none {h' h : Hp} {j : Nat} (hj : h' j = none) : h'.sub h j = none := by
  unfold Hp.sub; split
  · exact hj
  · rfl
theorem Hp.sub_out {h' h : Hp} {j : Nat} (hj : h'.sub h j ≠ none) : h j = none := by
  unfold Hp.sub at hj
  split at hj
  · assumption
  · exact absurd rfl hj
theorem Hp.none_le {h h' : Hp} (x : h.le h') {j : Nat} (hj : h' j = none) : h j = none := by
  cases e : h j with
  | none => rfl
  | some o => rw [x j o e] at hj; cases hj
theorem Hp.le_sub {hB h' h : Hp} (x : hB.le h') (d : ∀ j, hB j ≠ none → h j = none) : hB.le (h'.sub h) := fun j o e => by
  unfold Hp.sub
  rw [d j (by rw [e]; simp)]
  exact x j o e
theorem Hp.sub_mono {h1 h2 h : Hp} (x : h1.le h2) : (h1.sub h).le (h2.sub h) := Hp.le_sub (Hp.le_trans (Hp.sub_le _ _) x) fun _ hj => Hp.sub_out hj

def Lo.cl : Lo → List (List Value)
  | .nil => []
  | .cons t n B m c _ r => lcells t n B m c :: r.cl
theorem Lo.cl_len : ∀ l : Lo, l.cl.length = l.len
  | .nil => rfl
  | .cons _ _ _ _ _ _ r => by simp [Lo.cl, Lo.len, r.cl_len]
theorem Lo.cl_wid : ∀ l : Lo, ∀ r ∈ l.cl, r.length = 3
  | .nil, _, h => by cases h
  | .cons t n B m c _ r, x, h => by
    rcases List.mem_cons.1 h with rfl | h
    · rfl
    · exact r.cl_wid x h
theorem Lo.cl_one : ∀ l : Lo, ∀ u ∈ l.cl.flatten, u.oneCell' = true
  | .nil, _, h => by cases h
  | .cons t n B m c _ r, x, h => by
    rw [Lo.cl, List.flatten_cons] at h
    rcases List.mem_append.1 h with h | h
    · simp only [lcells, List.mem_cons, List.not_mem_nil, or_false] at h
      rcases h with rfl | rfl | rfl <;> rfl
    · exact r.cl_one x h
/-- what is asked of a body's slice -/
abbrev BK := Hp → Option Addr → Nat → Nat → Lo → Prop
def BK.Mono (K : BK) : Prop := ∀ h h' B m c b, h.le h' → K h B m c b → K h' B m c b
/-- the bodies lie in the heap -/
def Bdw (K : BK) (h : Hp) : Lo → Prop
  | .nil => True
  | .cons _ _ B m c b r => K h B m c b ∧ Bdw K h r
theorem Bdw.mono {K : BK} (hK : K.Mono) {h h' : Hp} (x : h.le h') : ∀ {l : Lo}, Bdw K h l → Bdw K h' l
  | .nil, _ => trivial
  | .cons _ _ _ _ _ _ _, ⟨a, b⟩ => ⟨hK _ _ _ _ _ _ x a, Bdw.mono hK x b⟩
/-- the bodies lie in the heap, apart from one another -/
def Bds (K : BK) (h : Hp) : Lo → Prop
  | .nil => True
  | .cons _ _ B m c b r => ∃ X1 X2 : Hp, X1.le h ∧ X2.le h ∧ (∀ j, X1 j ≠ none → X2 j = none) ∧ K X1 B m c b ∧ Bds K X2 r
theorem Bds.mono {K : BK} {h h' : Hp} (x : h.le h') : ∀ {l : Lo}, Bds K h l → Bds K h' l
  | .nil, _ => trivial
  | .cons _ _ _ _ _ _ _, ⟨X1, X2, a, b, c⟩ => ⟨X1, X2, Hp.le_trans a x, Hp.le_trans b x, c⟩
theorem Bds.weak {K : BK} (hK : K.Mono) {h : Hp} : ∀ {l : Lo}, Bds K h l → Bdw K h l
  | .nil, _ => trivial
  | .cons _ _ _ _ _ _ _, ⟨_, _, a, b, _, d, e⟩ => ⟨hK _ _ _ _ _ _ a d, Bdw.mono hK b (Bds.weak hK e)⟩
def Hp.or (a b : Hp) : Hp := fun j => match a j with
  | some o => some o
  | none => b j
theorem Hp.or_le {a b h : Hp} (x : a.le h) (y : b.le h) : (a.or b).le h := fun j o e => by
  unfold Hp.or at e
  cases q : a j with
  | none => rw [q] at e; exact y j o e
  | some o' => rw [q] at e; injection e with e; subst e; exact x j o' q
theorem Hp.le_or (a b : Hp) : a.le (a.or b) := fun j o e => by unfold Hp.or; rw [e]
theorem Hp.le_or2 {a b : Hp} (d : ∀ j, b j ≠ none → a j = none) : b.le (a.or b) := fun j o e => by
  unfold Hp.or; rw [d j (by rw [e]; simp)]; exact e
theorem Hp.or_none {a b : Hp} {j : Nat} (x : a j = none) (y : b j = none) : a.or b j = none := by unfold Hp.or; rw [x]; exact y
def SK : BK := fun h B m _ b => SAt h B m b
theorem SK.mono : SK.Mono := fun _ _ _ _ _ _ x a => SAt.mono x a
def Lo.snoc : Lo → Int → Int → Option Addr → Nat → Nat → Lo → Lo
  | .nil, t, n, B, m, c, b => .cons t n B m c b .nil
  | .cons t' n' B' m' c' b' r, t, n, B, m, c, b => .cons t' n' B' m' c' b' (r.snoc t n B m c b)
def Fo.app : Fo → Fo → Fo
  | .nil, f => f
  | .cons t n b r, f => .cons t n b (r.app f)
theorem Fo.app_nil : ∀ f : Fo, f.app .nil = f
  | .nil => rfl
  | .cons _ _ _ r => by simp [Fo.app, r.app_nil]
theorem Lo.snoc_fo (t n : Int) (B : Option Addr) (m c : Nat) (b : Lo) (f : Fo) : ∀ p : Lo, (p.snoc t n B m c b).fo.app f = p.fo.app (.cons t n b.fo f)
  | .nil => rfl
  | .cons _ _ _ _ _ _ r => by simp only [Lo.snoc, Lo.fo, Fo.app, Lo.snoc_fo t n B m c b f r]
theorem Lo.snoc_len (t n : Int) (B : Option Addr) (m c : Nat) (b : Lo) : ∀ p : Lo, (p.snoc t n B m c b).len = p.len + 1
  | .nil => rfl
  | .cons _ _ _ _ _ _ r => by simp [Lo.snoc, Lo.len, Lo.snoc_len t n B m c b r]
theorem Lo.snoc_cl (t n : Int) (B : Option Addr) (m c : Nat) (b : Lo) : ∀ p : Lo, (p.snoc t n B m c b).cl = p.cl ++ [lcells t n B m c]
  | .nil => rfl
  | .cons _ _ _ _ _ _ r => by simp [Lo.snoc, Lo.cl, Lo.snoc_cl t n B m c b r]
theorem Lo.snoc_bds {K : BK} {Y : Hp} (t n : Int) (B : Option Addr) (m c : Nat) (b : Lo) (hb : K Y B m c b) : ∀ {p : Lo} {X Z : Hp}, Bds K X p → (∀ j, Y j ≠ none → X j = none) → X.le Z → Y.le Z → Bds K Z (p.snoc t n B m c b)
  | .nil, _, _, _, _, _, hy => ⟨Y, fun _ => none, hy, (fun _ _ e => by cases e), (fun _ _ => rfl), hb, trivial⟩
  | .cons _ _ _ _ _ _ _, X, Z, ⟨X1, X2, a, b', c', d, e⟩, hd, hx, hy => ⟨X1, X2.or Y, Hp.le_trans a hx, Hp.or_le (Hp.le_trans b' hx) hy, fun j hj => Hp.or_none (c' j hj) (by
      cases q : Y j with
      | none => rfl
      | some o => exact absurd (Hp.none_le a (hd j (by rw [q]; simp))) hj), d, Lo.snoc_bds t n B m c b hb e (fun j hj => Hp.none_le b' (hd j hj)) (Hp.le_or _ _) (Hp.le_or2 fun j hj => Hp.none_le b' (hd j hj))⟩
theorem at_tab {h : Hp} {g : Addr} : ∀ (l : Lo) (i : Nat), (∀ k row, l.cl[k]? = some row → ∀ j v, row[j]? = some v → h.cell? ((g.add ((i + k) * 3)).add j) = some v) → Bdw SK h l → At h g i l
  | .nil, _, _, _ => trivial
  | .cons t n B m c b r, i, hc, ⟨hb, hr⟩ => ⟨hc 0 _ rfl, hb.1, hb.2, at_tab r (i + 1) (fun k row hk j v hv => by
      have := hc (k + 1) row (by simpa [Lo.cl] using hk) j v hv
      rwa [show i + (k + 1) = i + 1 + k by omega] at this) hr⟩
theorem Tab.sat {h : Hp} {A : Option Addr} {n : Nat} {l : Lo} (t : Tab h 3 A n l.cl) (hb : Bdw SK h l) : SAt h A n l := by
  have hl := t.len
  rw [l.cl_len] at hl
  refine ⟨hl.symm, ?_⟩
  by_cases h0 : n = 0
  · exact .inl (Lo.cnt_len (by omega))
  · obtain ⟨g, hg⟩ := t.ad h0
    exact .inr ⟨g, hg, at_tab l 0 (fun k row hk j v hv => by rw [add_add, Nat.zero_add]; exact t.cell g hg k row hk j v hv) hb⟩
theorem row_sub {h h' : Hp} {ety size n cap : Nat} {A : Option Addr} {xs : List Value} (x : RowAt h' ety size A n cap xs) (hf : ∀ g, A = some g → h g.block = none) : RowAt (h'.sub h) ety size A n cap xs := by
  obtain ⟨h1, h2⟩ := x
  refine ⟨h1, h2.imp id fun ⟨g, cur, e1, e2, e3⟩ => ⟨g, cur, e1, ?_, e3⟩⟩
  unfold Hp.sub
  have := hf _ e1
  simp only at this
  rw [this]
  exact e2
/-- a copy under way -/
structure Cp (K : BK) (h h' hB : Hp) (A : Option Addr) (i c : Nat) (p : Lo) : Prop where
  le : h.le h'
  leB : hB.le h'
  out : ∀ j, hB j ≠ none → h j = none
  fr : ∀ g, A = some g → h g.block = none ∧ hB g.block = none
  row : RowAt h' 58 3 A i c p.cl.flatten
  bds : Bds K hB p
  len : p.len = i
theorem Cp.nil (K : BK) (h : Hp) : Cp K h h (fun _ => none) none 0 0 .nil := ⟨Hp.le_refl h, (fun _ _ e => by cases e), (fun _ e => absurd rfl e), (fun _ e => by cases e), ⟨rfl, .inl ⟨rfl, rfl, rfl⟩⟩, trivial, rfl⟩
/-- what a body's copy has laid, and the row grown into a new one -/
theorem Cp.step {K : BK} {h h' hB h2 h3 : Hp} {A A' : Option Addr} {i c c' : Nat} {p : Lo} (x : Cp K h h' hB A i c p) (l2 : h'.le h2) (t n : Int) {B : Option Addr} {m cb : Nat} {b : Lo} (hb : K (h2.sub h') B m cb b)
    (l3 : (delA h2 A).le h3) (hr : RowAt h3 58 3 A' (i + 1) c' (p.cl.flatten ++ lcells t n B m cb)) (hf : ∀ g, A' = some g → delA h2 A g.block = none) :
    Cp K h h3 ((delA h2 A).sub h) A' (i + 1) c' (p.snoc t n B m cb b) := by
  have hA : h.le (delA h2 A) := delA_none (Hp.le_trans x.le l2) fun g e => (x.fr g e).1
  have hAh : ∀ g, A = some g → h' g.block ≠ none := fun g e => by
    rcases x.row.2 with ⟨q, _⟩ | ⟨g', cur, q, q2, _⟩
    · rw [q] at e; cases e
    · rw [q] at e; injection e with e; subst e; rw [q2]; simp
  have s1 : hB.le ((delA h2 A).sub h) := Hp.le_sub (delA_none (Hp.le_trans x.leB l2) fun g e => (x.fr g e).2) x.out
  have s2 : (h2.sub h').le ((delA h2 A).sub h) := Hp.le_sub (delA_none (Hp.sub_le _ _) fun g e => by
    cases q : h2.sub h' g.block with
    | none => rfl
    | some o => exact absurd (Hp.sub_out (by rw [q]; simp)) (hAh g e)) fun j hj => Hp.none_le x.le (Hp.sub_out hj)
  refine ⟨Hp.le_trans hA l3, Hp.le_trans (Hp.sub_le _ _) l3, fun j hj => Hp.sub_out hj, fun g e => ⟨Hp.none_le hA (hf g e), Hp.sub_none (hf g e)⟩, ?_, Lo.snoc_bds _ _ _ _ _ _ hb x.bds (fun j hj => Hp.none_le x.leB (Hp.sub_out hj)) s1 s2, by rw [Lo.snoc_len, x.len]⟩
  rw [Lo.snoc_cl, List.flatten_append, List.flatten_singleton]
  exact hr
theorem Cp.sat {h h' hB : Hp} {A : Option Addr} {i c : Nat} {p : Lo} (x : Cp SK h h' hB A i c p) : SAt (h'.sub h) A i p :=
  Tab.sat (RowAt.tab (row_sub x.row fun g e => (x.fr g e).1) p.cl_wid (by decide)) ((x.bds.weak SK.mono).mono SK.mono (Hp.le_sub x.leB x.out))
theorem lcells_one (t n : Int) (B : Option Addr) (m c : Nat) : ∀ u ∈ lcells t n B m c, u.oneCell' = true := by
  intro u h
  simp only [lcells, List.mem_cons, List.not_mem_nil, or_false] at h
  rcases h with rfl | rfl | rfl <;> rfl
theorem own46 : ∀ (N : Nat) (l : Lo), l.cnt < N → l.cnt ≤ 200000 → ∀ (A : Option Addr) (m cap : Nat) (h : Hp), SAt h A m l →
    Fn Try.prog 46 #[.slice A m cap] h fun v h' => h.le h' ∧ ∃ A' c' l', v = .slice A' m c' ∧ SAt (h'.sub h) A' m l' ∧ l'.fo = l.fo
  | 0, l, hN, _ => absurd hN (Nat.not_lt_zero _)
  | N + 1, l, hN, hc0 => by
    intro A m cap h hs
    have hm : m ≤ 200000 := by have := hs.1; have := l.len_cnt; omega
    refine Fn.intro (args := [.slice A m cap]) mix16 Try.func46 rfl (by decide) Try.ntmps46 rfl (low46 rfl) rfl ?_
    conv => whnf
    refine .mkS [] (Nat × Option Addr × Nat × Lo × Lo) [3, 6, 7, 8] (fun (i, D, c, _, _) => [.v (.slice D i c), .v (.slice A m cap), .v (iv m), .v (iv i)]) (fun _ => [])
        (fun (i, D, c, p, r) h' => ∃ hB, Cp SK h h' hB D i c p ∧ Tl h A m i r ∧ r.cnt ≤ l.cnt ∧ p.fo.app r.fo = l.fo) (fun (i, _, _, _, _) => m - i) (0, none, 0, .nil, l) (fun _ => rfl) ⟨_, Cp.nil SK h, hs.tl, Nat.le_refl _, rfl⟩ rfl rfl rfl ?_
    rintro ⟨i, D, c, p, r⟩ e h' ⟨hB, cp, ht, hrl, he⟩
    refine .done ?_
    conv => whnf
    refine br_dec (fun h2 => ?_) (fun h2 => ?_)
    · cases r with
      | nil => have := ht.fin; omega
      | cons t w B m' cc b r =>
        obtain ⟨g, hA, hi, hc, hb, hr⟩ := ht.open
        simp only [Lo.cnt] at hrl
        conv => whnf
        refine .mk g hA (by omega) (by omega) ?_
        conv => whnf
        refine .hp (lcells t w B m' cc) rfl (by rw [Int.toNat_natCast]; exact fun j v hv => Hp.cell_le cp.le (hc j v hv)) ?_
        conv => whnf
        refine .done (.mk _ (own46 N b (by omega) (by omega) B m' cc h' (hb.mono cp.le)) ?_)
        rintro _ h2 ⟨l2, B', c2, b', rfl, hb', hbf⟩
        conv => whnf
        refine .abs 58 3 D i c _ (cp.row.mono l2) (.done (.old 2 _ (lcells t w B' m' c2) rfl rfl (lcells_one _ _ _ _ _) (by simp [maxLen]; omega) (by omega) fun D2 c3 hD2 => ?_))
        conv => whnf
        refine .ok (by omega) (by omega) ?_
        conv => whnf
        refine .pub 2 58 3 D2 (i + 1) c3 _ rfl fun h3 l3 hro hf => .done ⟨(i + 1, D2, c3, p.snoc t w B' m' c2 b', r), rfl, rfl, ⟨_, cp.step l2 t w hb' l3 hro hf, hr, by omega, ?_⟩, by show m - (i + 1) < m - i; omega⟩
        rw [Lo.snoc_fo, hbf]
        exact he
    · conv => whnf
      cases r with
      | nil =>
        have := ht.fin
        subst this
        refine .done ⟨cp.le, D, c, p, rfl, cp.sat, ?_⟩
        rw [← he]
        exact (Fo.app_nil _).symm
      | cons => obtain ⟨g, hA, hi, _⟩ := ht.open; omega
end Go.Sx
