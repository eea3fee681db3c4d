/- Measuring a nest. Conditions: none. -/
import Derived.Test.YtndkgmgkbedepaaN17E
namespace Go.Sx
open Go.Proofs
set_option maxRecDepth 100000
abbrev sz (l : List Value) : Obj := .cells l.toArray 49 (0, 0)
theorem sz_cell (h : Hp) (b : Nat) (l : List Value) (j : Nat) {v : Value} (hv : l[j]? = some v) : (h.put b (sz l)).cell? ⟨b, j, none⟩ = some v := by
  unfold Hp.cell?; simp [Hp.put_same, hv]
theorem measure42 : ∀ (N : Nat) (l : Lo), l.cnt < N → l.cnt ≤ 200000 → ∀ (A : Option Addr) (m cap : Nat) (hF : Hp) (b a0 b0 c0 d0 dp : Nat), SAt hF A m l → hF b = none → dp ≤ c0 → a0 ≤ 9000000 → b0 ≤ 9000000 → dp + deep l.fo ≤ 9000000 → a0 + l.cnt ≤ 9000000 → b0 + l.cnt ≤ 9000000 →
    Fn Try.prog 43 #[.slice A m cap, iv dp, lptr b] (hF.put b (sz (sizeV a0 b0 c0 d0))) fun _ h' => h' = hF.put b (sz (sizeV (a0 + firs l.fo) (b0 + heads l.fo) (max c0 (dp + deep l.fo)) d0))
  | 0, l, hN, _ => absurd hN (Nat.not_lt_zero _)
  | N + 1, l, hN, hc0 => by
    intro A m cap hF bk a0 b0 c0 d0 dp hs hbk hdp ha hb00 hdd ha2 hb2
    have hm : m ≤ 200000 := by have := hs.1; have := l.len_cnt; omega
    refine Fn.intro (args := [.slice A m cap, iv dp, lptr bk]) mix16 Try.func43 rfl (by decide) Try.ntmps43 rfl (low43 rfl) rfl ?_
    conv => whnf
    refine .mk (Nat × Nat × Nat × Nat × Lo) [1, 2, 8, 9, 10] (fun (i, _, _, _, _) => [.v (iv dp), .v (lptr bk), .v (.slice A m cap), .v (iv m), .v (iv i)]) (fun _ => [])
        (fun (i, a, b, c, r) h' => h' = hF.put bk (sz (sizeV a b c d0)) ∧ Tl hF A m i r ∧ r.cnt ≤ l.cnt ∧ a + r.cnt ≤ 9000000 ∧ b + r.cnt ≤ 9000000 ∧ dp ≤ c ∧ dp + deep r.fo ≤ 9000000 ∧ a + firs r.fo = a0 + firs l.fo ∧ b + heads r.fo = b0 + heads l.fo ∧ max c (dp + deep r.fo) = max c0 (dp + deep l.fo)) (fun (i, _, _, _, _) => m - i) (0, a0, b0, c0, l) (fun _ => rfl) ⟨rfl, hs.tl, Nat.le_refl _, ha2, hb2, hdp, hdd, rfl, rfl, rfl⟩ rfl rfl ?_
    rintro ⟨i, a, hb', c, r⟩ e h' ⟨rfl, ht, hrl, u1, u2, u3, u4, e1, e2, e3⟩
    conv => whnf
    refine br_dec (fun h2 => ?_) (fun h2 => ?_)
    · cases r with
      | nil => have := ht.fin; omega
      | cons t w B m' cc b r =>
        obtain ⟨g, hA, hi, hc, hb, hr⟩ := ht.open
        simp only [Lo.cnt] at hrl u1 u2
        have hbm := hb.1
        simp only [Lo.fo, firs, heads, deep] at e1 e2 e3 u4
        obtain ⟨hh, hhd⟩ : ∃ hh : Nat, hh = if (1 : Int) < t then 1 else 0 := ⟨_, rfl⟩
        rw [← hhd] at e2
        have hlf := b.leaf_len
        have f1 := firs_cnt b.fo
        have f2 := heads_cnt b.fo
        rw [b.fo_cnt] at f1 f2
        have hmo : ∀ (cs : List Value) j v, (lcells t w B m' cc)[j]? = some v → (hF.put bk (sz cs)).cell? ((g.add (i * 3)).add j) = some v := fun cs j v hv => Hp.cell_le (Hp.le_put hbk) (hc j v hv)
        conv => whnf
        refine .mk g hA (by omega) (by omega) ?_
        conv => whnf
        refine .hp (lcells t w B m' cc) rfl (by rw [Int.toNat_natCast]; exact hmo _) ?_
        conv => whnf
        refine br_dec (fun h3 => ?_) (fun h3 => ?_)
        · rw [if_pos h3] at hhd
          subst hhd
          conv => whnf
          refine .hp (iv hb') (sz_cell hF bk _ 1 rfl) ?_
          conv => whnf
          refine .ok (by omega) (by omega) ?_
          conv => whnf
          refine .hp bk 1 49 (sizeV a hb' c d0) (sizeV a (hb' + 1) c d0) rfl (Hp.put_same _ _ _) rfl ?_
          rw [Hp.put_put]
          conv => whnf
          refine br_dec (fun h4 => ?_) (fun h4 => ?_)
          · rw [show b.fo.leaf = true by rw [hlf]; exact decide_eq_true (by omega)] at e1 e3 u4
            rw [leaf_nil (f := b.fo) (by rw [hlf]; exact decide_eq_true (by omega))] at e2
            simp only [cond_true, heads] at e1 e2 e3 u4
            conv => whnf
            refine .hp (iv a) (sz_cell hF bk _ 0 rfl) ?_
            conv => whnf
            refine .ok (by omega) (by omega) ?_
            conv => whnf
            refine .hp bk 0 49 (sizeV a (hb' + 1) c d0) (sizeV (a + 1) (hb' + 1) c d0) rfl (Hp.put_same _ _ _) rfl ?_
            rw [Hp.put_put]
            conv => whnf
            refine .ok (by omega) (by omega) ?_
            conv => whnf
            exact ⟨(i + 1, a + 1, hb' + 1, c, r), rfl, rfl, ⟨rfl, hr, by omega, by omega, by omega, by omega, by omega, by omega, by omega, by omega⟩, by show m - (i + 1) < m - i; omega⟩
          · have hlf2 : b.fo.leaf = false := by rw [hlf]; exact decide_eq_false (by omega)
            rw [hlf2] at e1 e3 u4
            simp only [cond_false] at e1 e2 e3 u4
            conv => whnf
            refine .hp (iv c) (sz_cell hF bk _ 2 rfl) ?_
            conv => whnf
            refine .ok (by omega) (by omega) ?_
            conv => whnf
            refine .hp bk 2 49 (sizeV a (hb' + 1) c d0) (sizeV a (hb' + 1) (max c (dp + 1)) d0) rfl (Hp.put_same _ _ _) ?_ ?_
            · show _ = some [iv a, _, iv ((max c (dp + 1) : Nat) : Int), _]
              rw [← imax]
              rfl
            rw [Hp.put_put]
            conv => whnf
            refine .ok (by omega) (by omega) ?_
            conv => whnf
            refine .done (.mk _ (measure42 N b (by omega) (by omega) B m' cc hF bk a (hb' + 1) (max c (dp + 1)) d0 (dp + 1) hb hbk (by omega) (by omega) (by omega) (by omega) (by omega) (by omega)) ?_)
            rintro _ _ rfl
            conv => whnf
            refine .ok (by omega) (by omega) ?_
            conv => whnf
            exact ⟨(i + 1, a + firs b.fo, hb' + 1 + heads b.fo, max (max c (dp + 1)) (dp + 1 + deep b.fo), r), rfl, rfl, ⟨rfl, hr, by omega, by omega, by omega, by omega, by omega, by omega, by omega, by omega⟩, by show m - (i + 1) < m - i; omega⟩
        · rw [if_neg h3] at hhd
          subst hhd
          conv => whnf
          refine br_dec (fun h4 => ?_) (fun h4 => ?_)
          · rw [show b.fo.leaf = true by rw [hlf]; exact decide_eq_true (by omega)] at e1 e3 u4
            rw [leaf_nil (f := b.fo) (by rw [hlf]; exact decide_eq_true (by omega))] at e2
            simp only [cond_true, heads] at e1 e2 e3 u4
            conv => whnf
            refine .hp (iv a) (sz_cell hF bk _ 0 rfl) ?_
            conv => whnf
            refine .ok (by omega) (by omega) ?_
            conv => whnf
            refine .hp bk 0 49 (sizeV a hb' c d0) (sizeV (a + 1) hb' c d0) rfl (Hp.put_same _ _ _) rfl ?_
            rw [Hp.put_put]
            conv => whnf
            refine .ok (by omega) (by omega) ?_
            conv => whnf
            exact ⟨(i + 1, a + 1, hb', c, r), rfl, rfl, ⟨rfl, hr, by omega, by omega, by omega, by omega, by omega, by omega, by omega, by omega⟩, by show m - (i + 1) < m - i; omega⟩
          · have hlf2 : b.fo.leaf = false := by rw [hlf]; exact decide_eq_false (by omega)
            rw [hlf2] at e1 e3 u4
            simp only [cond_false] at e1 e2 e3 u4
            conv => whnf
            refine .hp (iv c) (sz_cell hF bk _ 2 rfl) ?_
            conv => whnf
            refine .ok (by omega) (by omega) ?_
            conv => whnf
            refine .hp bk 2 49 (sizeV a hb' c d0) (sizeV a hb' (max c (dp + 1)) d0) rfl (Hp.put_same _ _ _) ?_ ?_
            · show _ = some [iv a, _, iv ((max c (dp + 1) : Nat) : Int), _]
              rw [← imax]
              rfl
            rw [Hp.put_put]
            conv => whnf
            refine .ok (by omega) (by omega) ?_
            conv => whnf
            refine .done (.mk _ (measure42 N b (by omega) (by omega) B m' cc hF bk a hb' (max c (dp + 1)) d0 (dp + 1) hb hbk (by omega) (by omega) (by omega) (by omega) (by omega) (by omega)) ?_)
            rintro _ _ rfl
            conv => whnf
            refine .ok (by omega) (by omega) ?_
            conv => whnf
            exact ⟨(i + 1, a + firs b.fo, hb' + heads b.fo, max (max c (dp + 1)) (dp + 1 + deep b.fo), r), rfl, rfl, ⟨rfl, hr, by omega, by omega, by omega, by omega, by omega, by omega, by omega, by omega⟩, by show m - (i + 1) < m - i; omega⟩
    · conv => whnf
      cases r with
      | nil =>
        simp only [Lo.fo, firs, heads, deep] at e1 e2 e3
        refine .done ?_
        rw [← e1, ← e2, ← e3, show max c (dp + 0) = c by omega]
        rfl
      | cons => obtain ⟨g, hA, hi, _⟩ := ht.open; omega
/-- what measuring answers -/
def sizeF (f : Fo) : List Value := if checkF f = 0 then sizeV (firs f) (heads f) (deep f) (tot f) else sizeV 0 0 0 0
theorem checkF_ok {f : Fo} (h : checkF f = 0) : (findF f 0 0).1 = 0 ∧ tot f ≤ 2048 := by
  unfold checkF at h
  split at h
  · rename_i h1; exact absurd h h1
  · rename_i h1
    split at h
    · cases h
    · exact ⟨Decidable.of_not_not h1, by omega⟩
theorem measure20 (l : Lo) (hc : l.cnt ≤ 200000) (A : Option Addr) (m cap : Nat) (h : Hp) (hs : SAt h A m l) :
    Fn Try.prog 28 #[.slice A m cap] h fun v h' => h.le h' ∧ v = .tuple #[.agg (sizeF l.fo).toArray, iv (checkF l.fo)] := by
  have b3 := deep_cnt l.fo
  rw [l.fo_cnt] at b3
  refine Fn.intro (args := [.slice A m cap]) mix16 Try.func28 rfl (by decide) Try.ntmps28 rfl (low28 rfl) rfl ?_
  conv => whnf
  refine .done (.mk _ (check17 l hc A m cap h hs) ?_)
  rintro _ h1 ⟨hl1, rfl⟩
  conv => whnf
  refine br_dec (fun h2 => ?_) (fun h2 => ?_)
  · conv => whnf
    refine .done ⟨hl1, ?_⟩
    unfold sizeF
    rw [if_neg h2]
    rfl
  · have h2 : checkF l.fo = 0 := Decidable.of_not_not h2
    obtain ⟨k1, k2⟩ := checkF_ok h2
    conv => whnf
    refine .done (.mk _ (total39 _ l (Nat.lt_succ_self _) hc (findF_pos _ _ _ k1) A m cap _ (hs.mono hl1)) ?_)
    rintro _ h3 ⟨rfl, rfl⟩
    rw [show min (tot l.fo) 2049 = tot l.fo by omega]
    conv => whnf
    refine .mk fun b hb => ?_
    conv => whnf
    refine .done (.mk _ (measure42 _ l (Nat.lt_succ_self _) hc A m cap h3 b 0 0 0 (tot l.fo) 0 (hs.mono hl1) hb (by omega) (by omega) (by omega) (by omega) (by omega) (by omega)) ?_)
    rintro _ _ rfl
    conv => whnf
    refine .hp (sizeV (0 + firs l.fo) (0 + heads l.fo) (max 0 (0 + deep l.fo)) (tot l.fo)) rfl (fun j v hv => by rw [add_lit, show 0 + j = j from Nat.zero_add j]; exact sz_cell _ _ _ j hv) ?_
    conv => whnf
    refine .done ⟨Hp.le_trans hl1 (Hp.le_put hb), ?_⟩
    unfold sizeF
    rw [if_pos h2, h2, show 0 + firs l.fo = firs l.fo by omega, show 0 + heads l.fo = heads l.fo by omega, show max 0 (0 + deep l.fo) = deep l.fo by omega]
    rfl
end Go.Sx
namespace Go.Sx
open Go.Proofs
set_option maxRecDepth 100000
theorem RowAt.mono {h h' : Hp} {ety size n cap : Nat} {A : Option Addr} {xs : List Value} (x : RowAt h ety size A n cap xs) (hle : h.le h') : RowAt h' ety size A n cap xs := by
  obtain ⟨h1, h2⟩ := x
  exact ⟨h1, h2.imp id fun ⟨g, cur, e1, e2, e3⟩ => ⟨g, cur, e1, hle _ _ e2, e3⟩⟩
theorem delA_none {h0 h : Hp} {B : Option Addr} (hle : h0.le h) (hn : ∀ g, B = some g → h0 g.block = none) : h0.le (delA h B) := by
  cases B with
  | none => exact hle
  | some g =>
    intro j o e
    rw [delA, Hp.del_ne _ (fun q => by subst q; rw [hn g rfl] at e; cases e)]
    exact hle j o e
theorem delA_le (h : Hp) (B : Option Addr) : (delA h B).le h := by
  cases B with
  | none => exact Hp.le_refl h
  | some g => exact Hp.del_le h _
/-- what is new -/
def Hp.sub (h' h : Hp) : Hp := fun j => match h j with
  | none => h' j
  | some _ => none
theorem Hp.sub_le (h' h : Hp) : (h'.sub h).le h' := fun j o e => by
  unfold Hp.sub at e
  split at e
  · exact e
  · cases e
theorem Hp.sub_none {h' h : Hp} {j : Nat} (hj : h' j = none) : h'.sub h j = none := by
  unfold Hp.sub; split
  · exact hj
  · rfl
theorem Hp.sub_out {h' h : Hp} {j : Nat} (hj : h'.sub h j ≠ none) : h j = none := by
  unfold Hp.sub at hj
  split at hj
  · assumption
  · exact absurd rfl hj
theorem Hp.none_le {h h' : Hp} (x : h.le h') {j : Nat} (hj : h' j = none) : h j = none := by
  cases e : h j with
  | none => rfl
  | some o => rw [x j o e] at hj; cases hj
theorem Hp.le_sub {hB h' h : Hp} (x : hB.le h') (d : ∀ j, hB j ≠ none → h j = none) : hB.le (h'.sub h) := fun j o e => by
  unfold Hp.sub
  rw [d j (by rw [e]; simp)]
  exact x j o e
theorem Hp.sub_mono {h1 h2 h : Hp} (x : h1.le h2) : (h1.sub h).le (h2.sub h) := Hp.le_sub (Hp.le_trans (Hp.sub_le _ _) x) fun _ hj => Hp.sub_out hj

def Lo.cl : Lo → List (List Value)
  | .nil => []
  | .cons t n B m c _ r => lcells t n B m c :: r.cl
theorem Lo.cl_len : ∀ l : Lo, l.cl.length = l.len
  | .nil => rfl
  | .cons _ _ _ _ _ _ r => by simp [Lo.cl, Lo.len, r.cl_len]
theorem Lo.cl_wid : ∀ l : Lo, ∀ r ∈ l.cl, r.length = 3
  | .nil, _, h => by cases h
  | .cons t n B m c _ r, x, h => by
    rcases List.mem_cons.1 h with rfl | h
    · rfl
    · exact r.cl_wid x h
theorem Lo.cl_one : ∀ l : Lo, ∀ u ∈ l.cl.flatten, u.oneCell' = true
  | .nil, _, h => by cases h
  | .cons t n B m c _ r, x, h => by
    rw [Lo.cl, List.flatten_cons] at h
    rcases List.mem_append.1 h with h | h
    · simp only [lcells, List.mem_cons, List.not_mem_nil, or_false] at h
      rcases h with rfl | rfl | rfl <;> rfl
    · exact r.cl_one x h
/-- what is asked of a body's slice -/
abbrev BK := Hp → Option Addr → Nat → Nat → Lo → Prop
def BK.Mono (K : BK) : Prop := ∀ h h' B m c b, h.le h' → K h B m c b → K h' B m c b
/-- the bodies lie in the heap -/
def Bdw (K : BK) (h : Hp) : Lo → Prop
  | .nil => True
  | .cons _ _ B m c b r => K h B m c b ∧ Bdw K h r
theorem Bdw.mono {K : BK} (hK : K.Mono) {h h' : Hp} (x : h.le h') : ∀ {l : Lo}, Bdw K h l → Bdw K h' l
  | .nil, _ => trivial
  | .cons _ _ _ _ _ _ _, ⟨a, b⟩ => ⟨hK _ _ _ _ _ _ x a, Bdw.mono hK x b⟩
/-- the bodies lie in the heap, apart from one another -/
def Bds (K : BK) (h : Hp) : Lo → Prop
  | .nil => True
  | .cons _ _ B m c b r => ∃ X1 X2 : Hp, X1.le h ∧ X2.le h ∧ (∀ j, X1 j ≠ none → X2 j = none) ∧ K X1 B m c b ∧ Bds K X2 r
theorem Bds.mono {K : BK} {h h' : Hp} (x : h.le h') : ∀ {l : Lo}, Bds K h l → Bds K h' l
  | .nil, _ => trivial
  | .cons _ _ _ _ _ _ _, ⟨X1, X2, a, b, c⟩ => ⟨X1, X2, Hp.le_trans a x, Hp.le_trans b x, c⟩
theorem Bds.weak {K : BK} (hK : K.Mono) {h : Hp} : ∀ {l : Lo}, Bds K h l → Bdw K h l
  | .nil, _ => trivial
  | .cons _ _ _ _ _ _ _, ⟨_, _, a, b, _, d, e⟩ => ⟨hK _ _ _ _ _ _ a d, Bdw.mono hK b (Bds.weak hK e)⟩
def Hp.or (a b : Hp) : Hp := fun j => match a j with
  | some o => some o
  | none => b j
theorem Hp.or_le {a b h : Hp} (x : a.le h) (y : b.le h) : (a.or b).le h := fun j o e => by
  unfold Hp.or at e
  cases q : a j with
  | none => rw [q] at e; exact y j o e
  | some o' => rw [q] at e; injection e with e; subst e; exact x j o' q
theorem Hp.le_or (a b : Hp) : a.le (a.or b) := fun j o e => by unfold Hp.or; rw [e]
theorem Hp.le_or2 {a b : Hp} (d : ∀ j, b j ≠ none → a j = none) : b.le (a.or b) := fun j o e => by
  unfold Hp.or; rw [d j (by rw [e]; simp)]; exact e
theorem Hp.or_none {a b : Hp} {j : Nat} (x : a j = none) (y : b j = none) : a.or b j = none := by unfold Hp.or; rw [x]; exact y
def SK : BK := fun h B m _ b => SAt h B m b
theorem SK.mono : SK.Mono := fun _ _ _ _ _ _ x a => SAt.mono x a
def Lo.snoc : Lo → Int → Int → Option Addr → Nat → Nat → Lo → Lo
  | .nil, t, n, B, m, c, b => .cons t n B m c b .nil
  | .cons t' n' B' m' c' b' r, t, n, B, m, c, b => .cons t' n' B' m' c' b' (r.snoc t n B m c b)
def Fo.app : Fo → Fo → Fo
  | .nil, f => f
  | .cons t n b r, f => .cons t n b (r.app f)
theorem Fo.app_nil : ∀ f : Fo, f.app .nil = f
  | .nil => rfl
  | .cons _ _ _ r => by simp [Fo.app, r.app_nil]
theorem Lo.snoc_fo (t n : Int) (B : Option Addr) (m c : Nat) (b : Lo) (f : Fo) : ∀ p : Lo, (p.snoc t n B m c b).fo.app f = p.fo.app (.cons t n b.fo f)
  | .nil => rfl
  | .cons _ _ _ _ _ _ r => by simp only [Lo.snoc, Lo.fo, Fo.app, Lo.snoc_fo t n B m c b f r]
theorem Lo.snoc_len (t n : Int) (B : Option Addr) (m c : Nat) (b : Lo) : ∀ p : Lo, (p.snoc t n B m c b).len = p.len + 1
  | .nil => rfl
  | .cons _ _ _ _ _ _ r => by simp [Lo.snoc, Lo.len, Lo.snoc_len t n B m c b r]
theorem Lo.snoc_cl (t n : Int) (B : Option Addr) (m c : Nat) (b : Lo) : ∀ p : Lo, (p.snoc t n B m c b).cl = p.cl ++ [lcells t n B m c]
  | .nil => rfl
  | .cons _ _ _ _ _ _ r => by simp [Lo.snoc, Lo.cl, Lo.snoc_cl t n B m c b r]
theorem Lo.snoc_bds {K : BK} {Y : Hp} (t n : Int) (B : Option Addr) (m c : Nat) (b : Lo) (hb : K Y B m c b) : ∀ {p : Lo} {X Z : Hp}, Bds K X p → (∀ j, Y j ≠ none → X j = none) → X.le Z → Y.le Z → Bds K Z (p.snoc t n B m c b)
  | .nil, _, _, _, _, _, hy => ⟨Y, fun _ => none, hy, (fun _ _ e => by cases e), (fun _ _ => rfl), hb, trivial⟩
  | .cons _ _ _ _ _ _ _, X, Z, ⟨X1, X2, a, b', c', d, e⟩, hd, hx, hy => ⟨X1, X2.or Y, Hp.le_trans a hx, Hp.or_le (Hp.le_trans b' hx) hy, fun j hj => Hp.or_none (c' j hj) (by
      cases q : Y j with
      | none => rfl
      | some o => exact absurd (Hp.none_le a (hd j (by rw [q]; simp))) hj), d, Lo.snoc_bds t n B m c b hb e (fun j hj => Hp.none_le b' (hd j hj)) (Hp.le_or _ _) (Hp.le_or2 fun j hj => Hp.none_le b' (hd j hj))⟩
theorem at_tab {h : Hp} {g : Addr} : ∀ (l : Lo) (i : Nat), (∀ k row, l.cl[k]? = some row → ∀ j v, row[j]? = some v → h.cell? ((g.add ((i + k) * 3)).add j) = some v) → Bdw SK h l → At h g i l
  | .nil, _, _, _ => trivial
  | .cons t n B m c b r, i, hc, ⟨hb, hr⟩ => ⟨hc 0 _ rfl, hb.1, hb.2, at_tab r (i + 1) (fun k row hk j v hv => by
      have := hc (k + 1) row (by simpa [Lo.cl] using hk) j v hv
      rwa [show i + (k + 1) = i + 1 + k by omega] at this) hr⟩
theorem Tab.sat {h : Hp} {A : Option Addr} {n : Nat} {l : Lo} (t : Tab h 3 A n l.cl) (hb : Bdw SK h l) : SAt h A n l := by
  have hl := t.len
  rw [l.cl_len] at hl
  refine ⟨hl.symm, ?_⟩
  by_cases h0 : n = 0
  · exact .inl (Lo.cnt_len (by omega))
  · obtain ⟨g, hg⟩ := t.ad h0
    exact .inr ⟨g, hg, at_tab l 0 (fun k row hk j v hv => by rw [add_add, Nat.zero_add]; exact t.cell g hg k row hk j v hv) hb⟩
theorem row_sub {h h' : Hp} {ety size n cap : Nat} {A : Option Addr} {xs : List Value} (x : RowAt h' ety size A n cap xs) (hf : ∀ g, A = some g → h g.block = none) : RowAt (h'.sub h) ety size A n cap xs := by
  obtain ⟨h1, h2⟩ := x
  refine ⟨h1, h2.imp id fun ⟨g, cur, e1, e2, e3⟩ => ⟨g, cur, e1, ?_, e3⟩⟩
  unfold Hp.sub
  have := hf _ e1
  simp only at this
  rw [this]
  exact e2
/-- a copy under way -/
structure Cp (K : BK) (h h' hB : Hp) (A : Option Addr) (i c : Nat) (p : Lo) : Prop where
  le : h.le h'
  leB : hB.le h'
  out : ∀ j, hB j ≠ none → h j = none
  fr : ∀ g, A = some g → h g.block = none ∧ hB g.block = none
  row : RowAt h' 41 3 A i c p.cl.flatten
  bds : Bds K hB p
  len : p.len = i
theorem Cp.nil (K : BK) (h : Hp) : Cp K h h (fun _ => none) none 0 0 .nil := ⟨Hp.le_refl h, (fun _ _ e => by cases e), (fun _ e => absurd rfl e), (fun _ e => by cases e), ⟨rfl, .inl ⟨rfl, rfl, rfl⟩⟩, trivial, rfl⟩
/-- what a body's copy has laid, and the row grown into a new one -/
theorem Cp.step {K : BK} {h h' hB h2 h3 : Hp} {A A' : Option Addr} {i c c' : Nat} {p : Lo} (x : Cp K h h' hB A i c p) (l2 : h'.le h2) (t n : Int) {B : Option Addr} {m cb : Nat} {b : Lo} (hb : K (h2.sub h') B m cb b)
    (l3 : (delA h2 A).le h3) (hr : RowAt h3 41 3 A' (i + 1) c' (p.cl.flatten ++ lcells t n B m cb)) (hf : ∀ g, A' = some g → delA h2 A g.block = none) :
    Cp K h h3 ((delA h2 A).sub h) A' (i + 1) c' (p.snoc t n B m cb b) := by
  have hA : h.le (delA h2 A) := delA_none (Hp.le_trans x.le l2) fun g e => (x.fr g e).1
  have hAh : ∀ g, A = some g → h' g.block ≠ none := fun g e => by
    rcases x.row.2 with ⟨q, _⟩ | ⟨g', cur, q, q2, _⟩
    · rw [q] at e; cases e
    · rw [q] at e; injection e with e; subst e; rw [q2]; simp
  have s1 : hB.le ((delA h2 A).sub h) := Hp.le_sub (delA_none (Hp.le_trans x.leB l2) fun g e => (x.fr g e).2) x.out
  have s2 : (h2.sub h').le ((delA h2 A).sub h) := Hp.le_sub (delA_none (Hp.sub_le _ _) fun g e => by
    cases q : h2.sub h' g.block with
    | none => rfl
    | some o => exact absurd (Hp.sub_out (by rw [q]; simp)) (hAh g e)) fun j hj => Hp.none_le x.le (Hp.sub_out hj)
  refine ⟨Hp.le_trans hA l3, Hp.le_trans (Hp.sub_le _ _) l3, fun j hj => Hp.sub_out hj, fun g e => ⟨Hp.none_le hA (hf g e), Hp.sub_none (hf g e)⟩, ?_, Lo.snoc_bds _ _ _ _ _ _ hb x.bds (fun j hj => Hp.none_le x.leB (Hp.sub_out hj)) s1 s2, by rw [Lo.snoc_len, x.len]⟩
  rw [Lo.snoc_cl, List.flatten_append, List.flatten_singleton]
  exact hr
theorem Cp.sat {h h' hB : Hp} {A : Option Addr} {i c : Nat} {p : Lo} (x : Cp SK h h' hB A i c p) : SAt (h'.sub h) A i p :=
  Tab.sat (RowAt.tab (row_sub x.row fun g e => (x.fr g e).1) p.cl_wid (by decide)) ((x.bds.weak SK.mono).mono SK.mono (Hp.le_sub x.leB x.out))
theorem lcells_one (t n : Int) (B : Option Addr) (m c : Nat) : ∀ u ∈ lcells t n B m c, u.oneCell' = true := by
  intro u h
  simp only [lcells, List.mem_cons, List.not_mem_nil, or_false] at h
  rcases h with rfl | rfl | rfl <;> rfl
theorem own46 : ∀ (N : Nat) (l : Lo), l.cnt < N → l.cnt ≤ 200000 → ∀ (A : Option Addr) (m cap : Nat) (h : Hp), SAt h A m l →
    Fn Try.prog 52 #[.slice A m cap] h fun v h' => h.le h' ∧ ∃ A' c' l', v = .slice A' m c' ∧ SAt (h'.sub h) A' m l' ∧ l'.fo = l.fo
  | 0, l, hN, _ => absurd hN (Nat.not_lt_zero _)
  | N + 1, l, hN, hc0 => by
    intro A m cap h hs
    have hm : m ≤ 200000 := by have := hs.1; have := l.len_cnt; omega
    refine Fn.intro (args := [.slice A m cap]) mix16 Try.func52 rfl (by decide) Try.ntmps52 rfl (low52 rfl) rfl ?_
    conv => whnf
    refine .mkS [] (Nat × Option Addr × Nat × Lo × Lo) [3, 6, 7, 8] (fun (i, D, c, _, _) => [.v (.slice D i c), .v (.slice A m cap), .v (iv m), .v (iv i)]) (fun _ => [])
        (fun (i, D, c, p, r) h' => ∃ hB, Cp SK h h' hB D i c p ∧ Tl h A m i r ∧ r.cnt ≤ l.cnt ∧ p.fo.app r.fo = l.fo) (fun (i, _, _, _, _) => m - i) (0, none, 0, .nil, l) (fun _ => rfl) ⟨_, Cp.nil SK h, hs.tl, Nat.le_refl _, rfl⟩ rfl rfl rfl ?_
    rintro ⟨i, D, c, p, r⟩ e h' ⟨hB, cp, ht, hrl, he⟩
    refine .done ?_
    conv => whnf
    refine br_dec (fun h2 => ?_) (fun h2 => ?_)
    · cases r with
      | nil => have := ht.fin; omega
      | cons t w B m' cc b r =>
        obtain ⟨g, hA, hi, hc, hb, hr⟩ := ht.open
        simp only [Lo.cnt] at hrl
        conv => whnf
        refine .mk g hA (by omega) (by omega) ?_
        conv => whnf
        refine .hp (lcells t w B m' cc) rfl (by rw [Int.toNat_natCast]; exact fun j v hv => Hp.cell_le cp.le (hc j v hv)) ?_
        conv => whnf
        refine .done (.mk _ (own46 N b (by omega) (by omega) B m' cc h' (hb.mono cp.le)) ?_)
        rintro _ h2 ⟨l2, B', c2, b', rfl, hb', hbf⟩
        conv => whnf
        refine .abs 41 3 D i c _ (cp.row.mono l2) (.done (.old 2 _ (lcells t w B' m' c2) rfl rfl (lcells_one _ _ _ _ _) (by simp [maxLen]; omega) (by omega) fun D2 c3 hD2 => ?_))
        conv => whnf
        refine .ok (by omega) (by omega) ?_
        conv => whnf
        refine .pub 2 41 3 D2 (i + 1) c3 _ rfl fun h3 l3 hro hf => .done ⟨(i + 1, D2, c3, p.snoc t w B' m' c2 b', r), rfl, rfl, ⟨_, cp.step l2 t w hb' l3 hro hf, hr, by omega, ?_⟩, by show m - (i + 1) < m - i; omega⟩
        rw [Lo.snoc_fo, hbf]
        exact he
    · conv => whnf
      cases r with
      | nil =>
        have := ht.fin
        subst this
        refine .done ⟨cp.le, D, c, p, rfl, cp.sat, ?_⟩
        rw [← he]
        exact (Fo.app_nil _).symm
      | cons => obtain ⟨g, hA, hi, _⟩ := ht.open; omega
end Go.Sx
namespace Go.Sx
open Go.Proofs
set_option maxRecDepth 100000
def markI : Int := -7770777
/-- A lent nest: behind each list stands a mark. -/
def MAt (h : Hp) : Addr → Nat → Lo → Prop
  | g, i, .nil => h.cell? ((g.add (i * 3)).add 0) = some (iv markI)
  | g, i, .cons t n B m c b r => (∀ j v, (lcells t n B m c)[j]? = some v → h.cell? ((g.add (i * 3)).add j) = some v) ∧ m = b.len ∧ (b = .nil ∨ ∃ g', B = some g' ∧ m < c ∧ MAt h g' 0 b) ∧ MAt h g (i + 1) r
theorem MAt.mono {h h' : Hp} (x : h.le h') : ∀ (l : Lo) (g : Addr) (i : Nat), MAt h g i l → MAt h' g i l
  | .nil, _, _, hc => Hp.cell_le x hc
  | .cons _ _ _ _ _ b r, g, i, ⟨h1, h2, h3, h4⟩ => ⟨fun j v hv => Hp.cell_le x (h1 j v hv), h2, h3.imp id fun ⟨g', e, hc, hb⟩ => ⟨g', e, hc, MAt.mono x b g' 0 hb⟩, MAt.mono x r g (i + 1) h4⟩
theorem MAt.at_ {h : Hp} : ∀ (l : Lo) (g : Addr) (i : Nat), MAt h g i l → At h g i l
  | .nil, _, _, _ => trivial
  | .cons _ _ _ _ _ b r, g, i, ⟨h1, h2, h3, h4⟩ => ⟨h1, h2, h3.imp id fun ⟨g', e, _, hb⟩ => ⟨g', e, MAt.at_ b g' 0 hb⟩, MAt.at_ r g (i + 1) h4⟩
/-- a body that is lent -/
def MK : BK := fun h B m c b => m = b.len ∧ (b = .nil ∨ ∃ g', B = some g' ∧ m < c ∧ MAt h g' 0 b)
theorem MK.mono : MK.Mono := fun _ _ _ _ _ b x ⟨a, d⟩ => ⟨a, d.imp id fun ⟨g, e, hc, hb⟩ => ⟨g, e, hc, MAt.mono x b g 0 hb⟩⟩
structure SMt (h : Hp) (A : Option Addr) (m c : Nat) (l : Lo) : Prop where
  len : m = l.len
  cap : m < c
  at_ : ∃ g, A = some g ∧ MAt h g 0 l
theorem SMt.mono {h h' : Hp} {A : Option Addr} {m c : Nat} {l : Lo} (x : h.le h') (s : SMt h A m c l) : SMt h' A m c l := ⟨s.len, s.cap, let ⟨g, e, hb⟩ := s.at_; ⟨g, e, MAt.mono x l g 0 hb⟩⟩
theorem SMt.sat {h : Hp} {A : Option Addr} {m c : Nat} {l : Lo} (s : SMt h A m c l) : SAt h A m l := ⟨s.len, let ⟨g, e, hb⟩ := s.at_; .inr ⟨g, e, MAt.at_ l g 0 hb⟩⟩
theorem SMt.mk_ {h : Hp} {A : Option Addr} {m c : Nat} {l : Lo} (s : SMt h A m c l) : MK h A m c l := ⟨s.len, .inr (let ⟨g, e, hb⟩ := s.at_; ⟨g, e, s.cap, hb⟩)⟩
theorem mat_tab {h : Hp} {g : Addr} : ∀ (l : Lo) (i : Nat), (∀ k row, l.cl[k]? = some row → ∀ j v, row[j]? = some v → h.cell? ((g.add ((i + k) * 3)).add j) = some v) → h.cell? ((g.add ((i + l.len) * 3)).add 0) = some (iv markI) → Bdw MK h l → MAt h g i l
  | .nil, _, _, hm, _ => by simpa [Lo.len, MAt] using hm
  | .cons _ _ _ _ _ _ r, i, hc, hm, ⟨hb, hr⟩ => ⟨hc 0 _ rfl, hb.1, hb.2, mat_tab r (i + 1) (fun k row hk j v hv => by
      have := hc (k + 1) row (by simpa [Lo.cl] using hk) j v hv
      rwa [show i + (k + 1) = i + 1 + k by omega] at this) (by
      simp only [Lo.len] at hm
      rwa [show i + (r.len + 1) = i + 1 + r.len by omega] at hm) hr⟩
def markRow : List Value := lcells markI 0 none 0 0
/-- A lent nest's bodies, each list in a block of its own. -/
def OB (X : Hp) : Lo → Prop
  | .nil => True
  | .cons _ _ B m c b r => ∃ X1 X2 : Hp, X1.le X ∧ X2.le X ∧ (∀ j, X1 j ≠ none → X2 j = none) ∧ (m = b.len ∧ (b = .nil ∨ ∃ hB, RowAt X1 41 3 B (m + 1) c (b.cl.flatten ++ markRow) ∧ (∀ g, B = some g → hB g.block = none) ∧ hB.le X1 ∧ OB hB b)) ∧ OB X2 r
/-- A lent nest. -/
structure OW (X : Hp) (A : Option Addr) (m c : Nat) (l : Lo) : Prop where
  len : m = l.len
  ex : ∃ hB, RowAt X 41 3 A (m + 1) c (l.cl.flatten ++ markRow) ∧ (∀ g, A = some g → hB g.block = none) ∧ hB.le X ∧ OB hB l
def LK : BK := fun X B m c b => m = b.len ∧ (b = .nil ∨ ∃ hB, RowAt X 41 3 B (m + 1) c (b.cl.flatten ++ markRow) ∧ (∀ g, B = some g → hB g.block = none) ∧ hB.le X ∧ OB hB b)
theorem ob_bds : ∀ (l : Lo) (X : Hp), OB X l ↔ Bds LK X l
  | .nil, _ => Iff.rfl
  | .cons _ _ _ _ _ _ r, X => by
    simp only [OB, Bds, LK, ob_bds r]
theorem OW.mono {X Y : Hp} {A : Option Addr} {m c : Nat} {l : Lo} (x : X.le Y) (s : OW X A m c l) : OW Y A m c l :=
  ⟨s.len, let ⟨hB, a, b, c, d⟩ := s.ex; ⟨hB, a.mono x, b, Hp.le_trans c x, d⟩⟩
theorem OW.lk {X : Hp} {A : Option Addr} {m c : Nat} {l : Lo} (s : OW X A m c l) : LK X A m c l := ⟨s.len, .inr s.ex⟩
theorem lent_tab {X hB : Hp} {A : Option Addr} {n c : Nat} {p : Lo} (hr : RowAt X 41 3 A (n + 1) c (p.cl.flatten ++ markRow)) (hl : n = p.len) (hle : hB.le X) (hb : Bdw MK hB p) : ∃ g, A = some g ∧ n < c ∧ MAt X g 0 p := by
  have hrow : RowAt X 41 3 A (n + 1) c (p.cl ++ [markRow]).flatten := by
    rw [List.flatten_append, List.flatten_singleton]; exact hr
  have tab := RowAt.tab hrow (fun r hr => by
    rcases List.mem_append.1 hr with hr | hr
    · exact p.cl_wid r hr
    · rw [List.mem_singleton.1 hr]; rfl) (by decide)
  have hpl : p.cl.length = n := by rw [p.cl_len, hl]
  have hcap : n < c := by
    rcases hr.2 with ⟨_, q, _⟩ | ⟨g, cur, _, _, q, _⟩
    · omega
    · omega
  obtain ⟨g, hg⟩ := tab.ad (by omega)
  refine ⟨g, hg, hcap, mat_tab p 0 (fun k row hk j v hv => ?_) ?_ (hb.mono MK.mono hle)⟩
  · rw [add_add, Nat.zero_add]
    exact tab.cell g hg k row (by rw [List.getElem?_append_left (List.getElem?_eq_some_iff.1 hk).1]; exact hk) j v hv
  · rw [add_add, Nat.zero_add, ← hl]
    exact tab.cell g hg n markRow (by rw [List.getElem?_append_right (by omega), hpl, Nat.sub_self]; rfl) 0 _ rfl
theorem ob_mk : ∀ (l : Lo) (X : Hp), OB X l → Bdw MK X l
  | .nil, _, _ => trivial
  | .cons _ _ B m c b r, X, ⟨X1, X2, a1, a2, _, ⟨hm, hb⟩, hr⟩ => ⟨⟨hm, hb.imp id fun ⟨hB, q1, _, q3, q4⟩ => by
      obtain ⟨g, e1, e2, e3⟩ := lent_tab q1 hm q3 (ob_mk b hB q4)
      exact ⟨g, e1, e2, MAt.mono a1 b g 0 e3⟩⟩, (ob_mk r X2 hr).mono MK.mono a2⟩
theorem OW.smt {X : Hp} {A : Option Addr} {m c : Nat} {l : Lo} (s : OW X A m c l) : SMt X A m c l := by
  obtain ⟨hB, q1, _, q3, q4⟩ := s.ex
  obtain ⟨g, e1, e2, e3⟩ := lent_tab q1 s.len q3 (ob_mk l hB q4)
  exact ⟨s.len, e2, g, e1, e3⟩
theorem lent_end {h h' h3 hB : Hp} {A A' : Option Addr} {n c c' : Nat} {p : Lo} (x : Cp LK h h' hB A n c p) (l3 : (delA h' A).le h3) (hr : RowAt h3 41 3 A' (n + 1) c' (p.cl.flatten ++ markRow)) (hf : ∀ g, A' = some g → delA h' A g.block = none) :
    h.le h3 ∧ OW (h3.sub h) A' n c' p := by
  have hA : h.le (delA h' A) := delA_none x.le fun g e => (x.fr g e).1
  have hBA := delA_none x.leB fun g e => (x.fr g e).2
  exact ⟨Hp.le_trans hA l3, x.len.symm, hB, row_sub hr fun g e => Hp.none_le hA (hf g e), fun g e => Hp.none_le hBA (hf g e), Hp.le_sub (Hp.le_trans hBA l3) x.out, (ob_bds p hB).2 x.bds⟩
theorem map_add0 (A : Option Addr) (k : Nat) : A.map (fun a => a.add (0 * k)) = A := by cases A <;> simp [add_zero]
theorem lentX : ∀ (N : Nat) (l : Lo), l.cnt < N → l.cnt ≤ 200000 → ∀ (A : Option Addr) (m cap : Nat) (h : Hp), SAt h A m l →
    Fn Try.prog 10 #[.slice A m cap] h fun v h' => h.le h' ∧ ∃ A' c' l', v = .slice A' m c' ∧ OW (h'.sub h) A' m c' l' ∧ l'.fo = l.fo
  | 0, l, hN, _ => absurd hN (Nat.not_lt_zero _)
  | N + 1, l, hN, hc0 => by
    intro A m cap h hs
    have hm : m ≤ 200000 := by have := hs.1; have := l.len_cnt; omega
    refine Fn.intro (args := [.slice A m cap]) mix16 Try.func10 rfl (by decide) Try.ntmps10 rfl (low10 rfl) rfl ?_
    conv => whnf
    refine .mkS [] (Nat × Option Addr × Nat × Lo × Lo) [0, 3, 4] (fun (i, D, c, _, _) => [.v (.slice A m cap), .v (.slice D i c), .v (iv i)]) (fun _ => [])
        (fun (i, D, c, p, r) h' => ∃ hB, Cp LK h h' hB D i c p ∧ Tl h A m i r ∧ r.cnt ≤ l.cnt ∧ p.fo.app r.fo = l.fo) (fun (i, _, _, _, _) => m - i) (0, none, 0, .nil, l) (fun _ => rfl) ⟨_, Cp.nil LK h, hs.tl, Nat.le_refl _, rfl⟩ rfl rfl rfl ?_
    rintro ⟨i, D, c, p, r⟩ e h' ⟨hB, cp, ht, hrl, he⟩
    refine .done ?_
    conv => whnf
    refine br_dec (fun h2 => ?_) (fun h2 => ?_)
    · cases r with
      | nil => have := ht.fin; omega
      | cons t w B m' cc b r =>
        obtain ⟨g, hA, hi, hc, hb, hr⟩ := ht.open
        simp only [Lo.cnt] at hrl
        have hbm := hb.1
        conv => whnf
        refine .mk g hA (by omega) (by omega) ?_
        conv => whnf
        refine .hp (lcells t w B m' cc) rfl (by rw [Int.toNat_natCast]; exact fun j v hv => Hp.cell_le cp.le (hc j v hv)) ?_
        conv => whnf
        refine br_dec (fun h3 => ?_) (fun h3 => ?_)
        · conv => whnf
          refine .done (.mk _ (lentX N b (by omega) (by omega) B m' cc h' (hb.mono cp.le)) ?_)
          rintro _ h2 ⟨l2, B', c2, b', rfl, hb', hbf⟩
          conv => whnf
          refine .abs 41 3 D i c _ (cp.row.mono l2) (.done (.old 2 _ (lcells t w B' m' c2) rfl rfl (lcells_one _ _ _ _ _) (by simp [maxLen]; omega) (by omega) fun D2 c3 hD2 => ?_))
          conv => whnf
          refine .ok (by omega) (by omega) ?_
          conv => whnf
          refine .pub 2 41 3 D2 (i + 1) c3 _ rfl fun h3 l3 hro hf => .done ⟨(i + 1, D2, c3, p.snoc t w B' m' c2 b', r), rfl, rfl, ⟨_, cp.step l2 t w hb'.lk l3 hro hf, hr, by omega, ?_⟩, by show m - (i + 1) < m - i; omega⟩
          rw [Lo.snoc_fo, hbf]
          exact he
        · have hbn : b = .nil := Lo.cnt_len (by omega)
          conv => whnf
          refine .abs 41 3 D i c _ cp.row (.done (.old 2 _ (lcells t w B m' cc) rfl rfl (lcells_one _ _ _ _ _) (by simp [maxLen]; omega) (by omega) fun D2 c3 hD2 => ?_))
          conv => whnf
          refine .ok (by omega) (by omega) ?_
          conv => whnf
          refine .pub 2 41 3 D2 (i + 1) c3 _ rfl fun h3 l3 hro hf => .done ⟨(i + 1, D2, c3, p.snoc t w B m' cc b, r), rfl, rfl, ⟨_, cp.step (Hp.le_refl h') t w ⟨hbm, .inl hbn⟩ l3 hro hf, hr, by omega, ?_⟩, by show m - (i + 1) < m - i; omega⟩
          rw [Lo.snoc_fo]
          exact he
    · conv => whnf
      cases r with
      | nil =>
        have := ht.fin
        subst this
        refine .abs 41 3 D i c _ cp.row (.done (.old 1 _ markRow rfl rfl (lcells_one _ _ _ _ _) (by simp [maxLen]; omega) (by omega) fun D2 c3 hD2 => ?_))
        conv => whnf
        refine .mk 0 i rfl rfl (Nat.zero_le _) (by omega) fun E hE1 _ => ?_
        obtain rfl : E = D2 := by rw [hE1 (by omega), map_add0]
        conv => whnf
        refine .pub 1 41 3 E (i + 1) c3 _ rfl fun h3 l3 hro hf => .done ?_
        obtain ⟨k1, k2⟩ := lent_end cp l3 hro hf
        refine ⟨k1, E, c3, p, rfl, k2, ?_⟩
        rw [← he]
        exact (Fo.app_nil _).symm
      | cons => obtain ⟨g, hA, hi, _⟩ := ht.open; omega
theorem lent15 (N : Nat) (l : Lo) (hN : l.cnt < N) (hc : l.cnt ≤ 200000) (A : Option Addr) (m cap : Nat) (h : Hp) (hs : SAt h A m l) :
    Fn Try.prog 10 #[.slice A m cap] h fun v h' => h.le h' ∧ ∃ A' c' l', v = .slice A' m c' ∧ SMt (h'.sub h) A' m c' l' ∧ l'.fo = l.fo :=
  (lentX N l hN hc A m cap h hs).mono fun _ _ ⟨a, A', c', l', b, c, d⟩ => ⟨a, A', c', l', b, c.smt, d⟩
theorem Lo.fo_nil {l : Lo} (h : l.fo = .nil) : l = .nil := by cases l <;> first | rfl | cases h
set_option maxRecDepth 100000 in
theorem kept19 : ∀ (N : Nat) (l : Lo), l.cnt < N → l.cnt ≤ 200000 → ∀ (k : Lo) (A D : Option Addr) (m c cap : Nat) (h : Hp), k.fo = l.fo → SMt h A m c k → SAt h D m l →
    Fn Try.prog 14 #[.slice A m c, .slice D m cap] h fun v h' => v = .bool true ∧ h' = h
  | 0, l, hN, _ => absurd hN (Nat.not_lt_zero _)
  | N + 1, l, hN, hc0 => by
    intro k A D m c cap h hkl hk hs
    have hm : m ≤ 200000 := by have := hs.1; have := l.len_cnt; omega
    obtain ⟨g, rfl, hkm⟩ := hk.at_
    have hcap := hk.cap
    refine Fn.intro (args := [.slice (some g) m c, .slice D m cap]) mix16 Try.func14 rfl (by decide) Try.ntmps14 rfl (low14 rfl) rfl ?_
    conv => whnf
    refine br_dec (fun h1 => absurd rfl h1) (fun _ => ?_)
    conv => whnf
    refine .mk (Nat × Lo × Lo) [0, 1, 5] (fun (i, _, _) => [.v (.slice (some g) m c), .v (.slice D m cap), .v (iv i)]) (fun _ => [])
        (fun (i, q, r) h' => h' = h ∧ Tl h D m i r ∧ MAt h g i q ∧ q.fo = r.fo ∧ r.cnt ≤ l.cnt) (fun (i, _, _) => m - i) (0, k, l) (fun _ => rfl) ⟨rfl, hs.tl, hkm, hkl, Nat.le_refl _⟩ rfl rfl ?_
    rintro ⟨i, q, r⟩ e h' ⟨rfl, ht, hq, hqr, hrl⟩
    conv => whnf
    refine br_dec (fun h2 => ?_) (fun h2 => ?_)
    · cases r with
      | nil => have := ht.fin; omega
      | cons t w B m' cc b r =>
        obtain ⟨g2, hD, hi, hc, hb, hr⟩ := ht.open
        simp only [Lo.cnt] at hrl
        cases q with
        | nil => cases hqr
        | cons t' w' B' m2 c2 b' q =>
          simp only [Lo.fo, Fo.cons.injEq] at hqr
          obtain ⟨rfl, rfl, hbb, hqr⟩ := hqr
          obtain ⟨k1, k2, k3, k4⟩ := hq
          have hmm : m2 = m' := by rw [k2, hb.1, ← Lo.fo_len, ← Lo.fo_len, hbb]
          subst hmm
          conv => whnf
          refine .mk g rfl (by omega) (by omega) ?_
          conv => whnf
          refine .hp (iv t') (by rw [Int.toNat_natCast]; exact k1 0 _ rfl) ?_
          conv => whnf
          refine .mk g2 hD (by omega) (by omega) ?_
          conv => whnf
          refine .hp (iv t') (by rw [Int.toNat_natCast]; exact hc 0 _ rfl) ?_
          conv => whnf
          refine br_dec (fun h3 => absurd rfl h3) (fun _ => ?_)
          conv => whnf
          refine .mk g rfl (by omega) (by omega) ?_
          conv => whnf
          refine .hp (iv w') (by rw [Int.toNat_natCast]; exact k1 1 _ rfl) ?_
          conv => whnf
          refine .mk g2 hD (by omega) (by omega) ?_
          conv => whnf
          refine .hp (iv w') (by rw [Int.toNat_natCast]; exact hc 1 _ rfl) ?_
          conv => whnf
          refine br_dec (fun h3 => absurd rfl h3) (fun _ => ?_)
          conv => whnf
          refine .mk g rfl (by omega) (by omega) ?_
          conv => whnf
          refine .hp (.slice B' m2 c2) (by rw [Int.toNat_natCast]; exact k1 2 _ rfl) ?_
          conv => whnf
          refine .mk g2 hD (by omega) (by omega) ?_
          conv => whnf
          refine .hp (.slice B m2 cc) (by rw [Int.toNat_natCast]; exact hc 2 _ rfl) ?_
          conv => whnf
          refine br_dec (fun h3 => absurd rfl h3) (fun _ => ?_)
          conv => whnf
          refine .mk g2 hD (by omega) (by omega) ?_
          conv => whnf
          refine .hp (.slice B m2 cc) (by rw [Int.toNat_natCast]; exact hc 2 _ rfl) ?_
          conv => whnf
          refine br_dec (fun h3 => ?_) (fun h3 => ?_)
          · conv => whnf
            refine .mk g rfl (by omega) (by omega) ?_
            conv => whnf
            refine .hp (.slice B' m2 c2) (by rw [Int.toNat_natCast]; exact k1 2 _ rfl) ?_
            conv => whnf
            refine .mk g2 hD (by omega) (by omega) ?_
            conv => whnf
            refine .hp (.slice B m2 cc) (by rw [Int.toNat_natCast]; exact hc 2 _ rfl) ?_
            conv => whnf
            refine .mk _ (kept19 N b (by omega) (by omega) b' B' B m2 c2 cc h' hbb ⟨k2, ?_, ?_⟩ hb) (fun v h' ⟨_, e⟩ => by rw [e]; exact Hp.le_refl _) ?_
            · rcases k3 with k3 | ⟨g', _, k3, _⟩
              · subst k3; simp only [Lo.len] at k2; omega
              · exact k3
            · rcases k3 with k3 | ⟨g', k3, _, k5⟩
              · subst k3; simp only [Lo.len] at k2; omega
              · exact ⟨g', k3, k5⟩
            rintro _ _ ⟨rfl, rfl⟩
            conv => whnf
            refine .ok (by omega) (by omega) ?_
            conv => whnf
            exact ⟨(i + 1, q, r), rfl, rfl, ⟨rfl, hr, k4, hqr, by omega⟩, by show m - (i + 1) < m - i; omega⟩
          · conv => whnf
            refine .ok (by omega) (by omega) ?_
            conv => whnf
            exact ⟨(i + 1, q, r), rfl, rfl, ⟨rfl, hr, k4, hqr, by omega⟩, by show m - (i + 1) < m - i; omega⟩
    · conv => whnf
      cases r with
      | nil =>
        have := ht.fin
        subst this
        obtain rfl := Lo.fo_nil hqr
        refine .ok (by omega) (by omega) ?_
        conv => whnf
        refine .mk 0 (i + 1) rfl rfl (Nat.zero_le _) (by omega) fun E hE1 _ => ?_
        obtain rfl : E = some g := by rw [hE1 (by omega), map_add0]
        conv => whnf
        refine .mk g rfl (by omega) (by omega) ?_
        conv => whnf
        refine .hp (iv markI) (by rw [Int.toNat_natCast]; exact hq) ?_
        conv => whnf
        exact .done ⟨rfl, rfl⟩
      | cons => obtain ⟨g, hA, hi, _⟩ := ht.open; omega
end Go.Sx
