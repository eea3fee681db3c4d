/- Nests lent: copies with marked room, and whether they are as they were. Conditions: none. -/
import Derived.Test.YtnfmbjeicloemaaN16G
namespace Go.Sx
open Go.Proofs
def markI : Int := -7770777
/-- A lent nest: behind each list stands a mark. -/
def MAt (h : Hp) : Addr → Nat → Lo → Prop
  | g, i, .nil => h.cell? ((g.add (i * 3)).add 0) = some (iv markI)
  | g, i, .cons t n B m c b r => (∀ j v, (lcells t n B m c)[j]? = some v → h.cell? ((g.add (i * 3)).add j) = some v) ∧ m = b.len ∧ (b = .nil ∨ ∃ g', B = some g' ∧ m < c ∧ MAt h g' 0 b) ∧ MAt h g (i + 1) r
theorem MAt.mono {h h' : Hp} (x : h.le h') : ∀ (l : Lo) (g : Addr) (i : Nat), MAt h g i l → MAt h' g i l
  | .nil, _, _, hc => Hp.cell_le x hc
  | .cons _ _ _ _ _ b r, g, i, ⟨h1, h2, h3, h4⟩ => ⟨fun j v hv => Hp.cell_le x (h1 j v hv), h2, h3.imp id fun ⟨g', e, hc, hb⟩ => ⟨g', e, hc, MAt.mono x b g' 0 hb⟩, MAt.mono x r g (i + 1) h4⟩
theorem MAt.at_ {h : Hp} : ∀ (l : Lo) (g : Addr) (i : Nat), MAt h g i l → At h g i l
  | .nil, _, _, _ => trivial
  | .cons _ _ _ _ _ b r, g, i, ⟨h1, h2, h3, h4⟩ => ⟨h1, h2, h3.imp id fun ⟨g', e, _, hb⟩ => ⟨g', e, MAt.at_ b g' 0 hb⟩, MAt.at_ r g (i + 1) h4⟩
/-- a body that is lent -/
def MK : BK := fun h B m c b => m = b.len ∧ (b = .nil ∨ ∃ g', B = some g' ∧ m < c ∧ MAt h g' 0 b)
theorem MK.mono : MK.Mono := fun _ _ _ _ _ b x ⟨a, d⟩ => ⟨a, d.imp id fun ⟨g, e, hc, hb⟩ => ⟨g, e, hc, MAt.mono x b g 0 hb⟩⟩
structure SMt (h : Hp) (A : Option Addr) (m c : Nat) (l : Lo) : Prop where
  len : m = l.len
  cap : m < c
  at_ : ∃ g, A = some g ∧ MAt h g 0 l
theorem SMt.mono {h h' : Hp} {A : Option Addr} {m c : Nat} {l : Lo} (x : h.le h') (s : SMt h A m c l) : SMt h' A m c l := ⟨s.len, s.cap, let ⟨g, e, hb⟩ := s.at_; ⟨g, e, MAt.mono x l g 0 hb⟩⟩
theorem SMt.sat {h : Hp} {A : Option Addr} {m c : Nat} {l : Lo} (s : SMt h A m c l) : SAt h A m l := ⟨s.len, let ⟨g, e, hb⟩ := s.at_; .inr ⟨g, e, MAt.at_ l g 0 hb⟩⟩
theorem SMt.mk_ {h : Hp} {A : Option Addr} {m c : Nat} {l : Lo} (s : SMt h A m c l) : MK h A m c l := ⟨s.len, .inr (let ⟨g, e, hb⟩ := s.at_; ⟨g, e, s.cap, hb⟩)⟩
theorem mat_tab {h : Hp} {g : Addr} : ∀ (l : Lo) (i : Nat), (∀ k row, l.cl[k]? = some row → ∀ j v, row[j]? = some v → h.cell? ((g.add ((i + k) * 3)).add j) = some v) → h.cell? ((g.add ((i + l.len) * 3)).add 0) = some (iv markI) → Bdw MK h l → MAt h g i l
  | .nil, _, _, hm, _ => by simpa [Lo.len, MAt] using hm
  | .cons _ _ _ _ _ _ r, i, hc, hm, ⟨hb, hr⟩ => ⟨hc 0 _ rfl, hb.1, hb.2, mat_tab r (i + 1) (fun k row hk j v hv => by
      have := hc (k + 1) row (by simpa [Lo.cl] using hk) j v hv
      rwa [show i + (k + 1) = i + 1 + k by omega] at this) (by
      simp only [Lo.len] at hm
      rwa [show i + (r.len + 1) = i + 1 + r.len by omega] at hm) hr⟩
def markRow : List Value := lcells markI 0 none 0 0
/-- A lent nest's bodies, each list in a block of its own. -/
def OB (X : Hp) : Lo → Prop
  | .nil => True
  | .cons _ _ B m c b r => ∃ X1 X2 : Hp, X1.le X ∧ X2.le X ∧ (∀ j, X1 j ≠ none → X2 j = none) ∧ (m = b.len ∧ (b = .nil ∨ ∃ hB, RowAt X1 58 3 B (m + 1) c (b.cl.flatten ++ markRow) ∧ (∀ g, B = some g → hB g.block = none) ∧ hB.le X1 ∧ OB hB b)) ∧ OB X2 r
/-- A lent nest. -/
structure OW (X : Hp) (A : Option Addr) (m c : Nat) (l : Lo) : Prop where
  len : m = l.len
  ex : ∃ hB, RowAt X 58 3 A (m + 1) c (l.cl.flatten ++ markRow) ∧ (∀ g, A = some g → hB g.block = none) ∧ hB.le X ∧ OB hB l
def LK : BK := fun X B m c b => m = b.len ∧ (b = .nil ∨ ∃ hB, RowAt X 58 3 B (m + 1) c (b.cl.flatten ++ markRow) ∧ (∀ g, B = some g → hB g.block = none) ∧ hB.le X ∧ OB hB b)
theorem ob_bds : ∀ (l : Lo) (X : Hp), OB X l ↔ Bds LK X l
  | .nil, _ => Iff.rfl
  | .cons _ _ _ _ _ _ r, X => by
    simp only [OB, Bds, LK, ob_bds r]
theorem OW.mono {X Y : Hp} {A : Option Addr} {m c : Nat} {l : Lo} (x : X.le Y) (s : OW X A m c l) : OW Y A m c l :=
  ⟨s.len, let ⟨hB, a, b, c, d⟩ := s.ex; ⟨hB, a.mono x, b, Hp.le_trans c x, d⟩⟩
theorem OW.lk {X : Hp} {A : Option Addr} {m c : Nat} {l : Lo} (s : OW X A m c l) : LK X A m c l := ⟨s.len, .inr s.ex⟩
theorem lent_tab {X hB : Hp} {A : Option Addr} {n c : Nat} {p : Lo} (hr : RowAt X 58 3 A (n + 1) c (p.cl.flatten ++ markRow)) (hl : n = p.len) (hle : hB.le X) (hb : Bdw MK hB p) : ∃ g, A = some g ∧ n < c ∧ MAt X g 0 p := by
  have hrow : RowAt X 58 3 A (n + 1) c (p.cl ++ [markRow]).flatten := by
    rw [List.flatten_append, List.flatten_singleton]; exact hr
  have tab := RowAt.tab hrow (fun r hr => by
    rcases List.mem_append.1 hr with hr | hr
    · exact p.cl_wid r hr
    · rw [List.mem_singleton.1 hr]; rfl) (by decide)
  have hpl : p.cl.length = n := by rw [p.cl_len, hl]
  have hcap : n < c := by
    rcases hr.2 with ⟨_, q, _⟩ | ⟨g, cur, _, _, q, _⟩
    · omega
    · omega
  obtain ⟨g, hg⟩ := tab.ad (by omega)
  refine ⟨g, hg, hcap, mat_tab p 0 (fun k row hk j v hv => ?_) ?_ (hb.mono MK.mono hle)⟩
  · rw [add_add, Nat.zero_add]
    exact tab.cell g hg k row (by rw [List.getElem?_append_left (List.getElem?_eq_some_iff.1 hk).1]; exact hk) j v hv
  · rw [add_add, Nat.zero_add, ← hl]
    exact tab.cell g hg n markRow (by rw [List.getElem?_append_right (by omega), hpl, Nat.sub_self]; rfl) 0 _ rfl
theorem ob_mk : ∀ (l : Lo) (X : Hp), OB X l → Bdw MK X l
  | .nil, _, _ => trivial
  | .cons _ _ B m c b r, X, ⟨X1, X2, a1, a2, _, ⟨hm, hb⟩, hr⟩ => ⟨⟨hm, hb.imp id fun ⟨hB, q1, _, q3, q4⟩ => by
      obtain ⟨g, e1, e2, e3⟩ := lent_tab q1 hm q3 (ob_mk b hB q4)
      exact ⟨g, e1, e2, MAt.mono a1 b g 0 e3⟩⟩, (ob_mk r X2 hr).mono MK.mono a2⟩
theorem OW.smt {X : Hp} {A : Option Addr} {m c : Nat} {l : Lo} (s : OW X A m c l) : SMt X A m c l := by
  obtain ⟨hB, q1, _, q3, q4⟩ := s.ex
  obtain ⟨g, e1, e2, e3⟩ := lent_tab q1 s.len q3 (ob_mk l hB q4)
  exact ⟨s.len, e2, g, e1, e3⟩
theorem lent_end {h h' h3 hB : Hp} {A A' : Option Addr} {n c c' : Nat} {p : Lo} (x : Cp LK h h' hB A n c p) (l3 : (delA h' A).le h3) (hr : RowAt h3 58 3 A' (n + 1) c' (p.cl.flatten ++ markRow)) (hf : ∀ g, A' = some g → delA h' A g.block = none) :
    h.le h3 ∧ OW (h3.sub h) A' n c' p := by
  have hA : h.le (delA h' A) := delA_none x.le fun g e => (x.fr g e).1
  have hBA := delA_none x.leB fun g e => (x.fr g e).2
  exact ⟨Hp.le_trans hA l3, x.len.symm, hB, row_sub hr fun g e => Hp.none_le hA (hf g e), fun g e => Hp.none_le hBA (hf g e), Hp.le_sub (Hp.le_trans hBA l3) x.out, (ob_bds p hB).2 x.bds⟩
theorem map_add0 (A : Option Addr) (k : Nat) : A.map (fun a => a.add (0 * k)) = A := by cases A <;> simp [add_zero]
theorem lentX : ∀ (N : Nat) (l : Lo), l.cnt < N → l.cnt ≤ 200000 → ∀ (A : Option Addr) (m cap : Nat) (h : Hp), SAt h A m l →
    Fn Try.prog 15 #[.slice A m cap] h fun v h' => h.le h' ∧ ∃ A' c' l', v = .slice A' m c' ∧ OW (h'.sub h) A' m c' l' ∧ l'.fo = l.fo
  | 0, l, hN, _ => absurd hN (Nat.not_lt_zero _)
  | N + 1, l, hN, hc0 => by
    intro A m cap h hs
    have hm : m ≤ 200000 := by have := hs.1; have := l.len_cnt; omega
    refine Fn.intro (args := [.slice A m cap]) mix16 Try.func15 rfl (by decide) Try.ntmps15 rfl (low15 rfl) rfl ?_
    conv => whnf
    refine .mkS [] (Nat × Option Addr × Nat × Lo × Lo) [0, 3, 4] (fun (i, D, c, _, _) => [.v (.slice A m cap), .v (.slice D i c), .v (iv i)]) (fun _ => [])
        (fun (i, D, c, p, r) h' => ∃ hB, Cp LK h h' hB D i c p ∧ Tl h A m i r ∧ r.cnt ≤ l.cnt ∧ p.fo.app r.fo = l.fo) (fun (i, _, _, _, _) => m - i) (0, none, 0, .nil, l) (fun _ => rfl) ⟨_, Cp.nil LK h, hs.tl, Nat.le_refl _, rfl⟩ rfl rfl rfl ?_
    rintro ⟨i, D, c, p, r⟩ e h' ⟨hB, cp, ht, hrl, he⟩
    refine .done ?_
    conv => whnf
    refine br_dec (fun h2 => ?_) (fun h2 => ?_)
    · cases r with
      | nil => have := ht.fin; omega
      | cons t w B m' cc b r =>
        obtain ⟨g, hA, hi, hc, hb, hr⟩ := ht.open
        simp only [Lo.cnt] at hrl
        have hbm := hb.1
        conv => whnf
        refine .mk g hA (by omega) (by omega) ?_
        conv => whnf
        refine .hp (lcells t w B m' cc) rfl (by rw [Int.toNat_natCast]; exact fun j v hv => Hp.cell_le cp.le (hc j v hv)) ?_
        conv => whnf
        refine br_dec (fun h3 => ?_) (fun h3 => ?_)
        · conv => whnf
          refine .done (.mk _ (lentX N b (by omega) (by omega) B m' cc h' (hb.mono cp.le)) ?_)
          rintro _ h2 ⟨l2, B', c2, b', rfl, hb', hbf⟩
          conv => whnf
          refine .abs 58 3 D i c _ (cp.row.mono l2) (.done (.old 2 _ (lcells t w B' m' c2) rfl rfl (lcells_one _ _ _ _ _) (by simp [maxLen]; omega) (by omega) fun D2 c3 hD2 => ?_))
          conv => whnf
          refine .ok (by omega) (by omega) ?_
          conv => whnf
          refine .pub 2 58 3 D2 (i + 1) c3 _ rfl fun h3 l3 hro hf => .done ⟨(i + 1, D2, c3, p.snoc t w B' m' c2 b', r), rfl, rfl, ⟨_, cp.step l2 t w hb'.lk l3 hro hf, hr, by omega, ?_⟩, by show m - (i + 1) < m - i; omega⟩
          rw [Lo.snoc_fo, hbf]
          exact he
        · have hbn : b = .nil := Lo.cnt_len (by omega)
          conv => whnf
          refine .abs 58 3 D i c _ cp.row (.done (.old 2 _ (lcells t w B m' cc) rfl rfl (lcells_one _ _ _ _ _) (by simp [maxLen]; omega) (by omega) fun D2 c3 hD2 => ?_))
          conv => whnf
          refine .ok (by omega) (by omega) ?_
          conv => whnf
          refine .pub 2 58 3 D2 (i + 1) c3 _ rfl fun h3 l3 hro hf => .done ⟨(i + 1, D2, c3, p.snoc t w B m' cc b, r), rfl, rfl, ⟨_, cp.step (Hp.le_refl h') t w ⟨hbm, .inl hbn⟩ l3 hro hf, hr, by omega, ?_⟩, by show m - (i + 1) < m - i; omega⟩
          rw [Lo.snoc_fo]
          exact he
    · conv => whnf
      cases r with
      | nil =>
        have := ht.fin
        subst this
        refine .abs 58 3 D i c _ cp.row (.done (.old 1 _ markRow rfl rfl (lcells_one _ _ _ _ _) (by simp [maxLen]; omega) (by omega) fun D2 c3 hD2 => ?_))
        conv => whnf
        refine .mk 0 i rfl rfl (Nat.zero_le _) (by omega) fun E hE1 _ => ?_
        obtain rfl : E = D2 := by rw [hE1 (by omega), map_add0]
        conv => whnf
        refine .pub 1 58 3 E (i + 1) c3 _ rfl fun h3 l3 hro hf => .done ?_
        obtain ⟨k1, k2⟩ := lent_end cp l3 hro hf
        refine ⟨k1, E, c3, p, rfl, k2, ?_⟩
        rw [← he]
        exact (Fo.app_nil _).symm
      | cons => obtain ⟨g, hA, hi, _⟩ := ht.open; omega
theorem lent15 (N : Nat) (l : Lo) (hN : l.cnt < N) (hc : l.cnt ≤ 200000) (A : Option Addr) (m cap : Nat) (h : Hp) (hs : SAt h A m l) :
    Fn Try.prog 15 #[.slice A m cap] h fun v h' => h.le h' ∧ ∃ A' c' l', v = .slice A' m c' ∧ SMt (h'.sub h) A' m c' l' ∧ l'.fo = l.fo :=
  (lentX N l hN hc A m cap h hs).mono fun _ _ ⟨a, A', c', l', b, c, d⟩ => ⟨a, A', c', l', b, c.smt, d⟩
theorem Lo.fo_nil {l : Lo} (h : l.fo = .nil) : l = .nil := by cases l <;> first | rfl | cases h
set_option maxRecDepth 100000 in
theorem kept19 : ∀ (N : Nat) (l : Lo), l.cnt < N → l.cnt ≤ 200000 → ∀ (k : Lo) (A D : Option Addr) (m c cap : Nat) (h : Hp), k.fo = l.fo → SMt h A m c k → SAt h D m l →
    Fn Try.prog 19 #[.slice A m c, .slice D m cap] h fun v h' => v = .bool true ∧ h' = h
  | 0, l, hN, _ => absurd hN (Nat.not_lt_zero _)
  | N + 1, l, hN, hc0 => by
    intro k A D m c cap h hkl hk hs
    have hm : m ≤ 200000 := by have := hs.1; have := l.len_cnt; omega
    obtain ⟨g, rfl, hkm⟩ := hk.at_
    have hcap := hk.cap
    refine Fn.intro (args := [.slice (some g) m c, .slice D m cap]) mix16 Try.func19 rfl (by decide) Try.ntmps19 rfl (low19 rfl) rfl ?_
    conv => whnf
    refine br_dec (fun h1 => absurd rfl h1) (fun _ => ?_)
    conv => whnf
    refine .mk (Nat × Lo × Lo) [0, 1, 5] (fun (i, _, _) => [.v (.slice (some g) m c), .v (.slice D m cap), .v (iv i)]) (fun _ => [])
        (fun (i, q, r) h' => h' = h ∧ Tl h D m i r ∧ MAt h g i q ∧ q.fo = r.fo ∧ r.cnt ≤ l.cnt) (fun (i, _, _) => m - i) (0, k, l) (fun _ => rfl) ⟨rfl, hs.tl, hkm, hkl, Nat.le_refl _⟩ rfl rfl ?_
    rintro ⟨i, q, r⟩ e h' ⟨rfl, ht, hq, hqr, hrl⟩
    conv => whnf
    refine br_dec (fun h2 => ?_) (fun h2 => ?_)
    · cases r with
      | nil => have := ht.fin; omega
      | cons t w B m' cc b r =>
        obtain ⟨g2, hD, hi, hc, hb, hr⟩ := ht.open
        simp only [Lo.cnt] at hrl
        cases q with
        | nil => cases hqr
        | cons t' w' B' m2 c2 b' q =>
          simp only [Lo.fo, Fo.cons.injEq] at hqr
          obtain ⟨rfl, rfl, hbb, hqr⟩ := hqr
          obtain ⟨k1, k2, k3, k4⟩ := hq
          have hmm : m2 = m' := by rw [k2, hb.1, ← Lo.fo_len, ← Lo.fo_len, hbb]
          subst hmm
          conv => whnf
          refine .mk g rfl (by omega) (by omega) ?_
          conv => whnf
          refine .hp (iv t') (by rw [Int.toNat_natCast]; exact k1 0 _ rfl) ?_
          conv => whnf
          refine .mk g2 hD (by omega) (by omega) ?_
          conv => whnf
          refine .hp (iv t') (by rw [Int.toNat_natCast]; exact hc 0 _ rfl) ?_
          conv => whnf
          refine br_dec (fun h3 => absurd rfl h3) (fun _ => ?_)
          conv => whnf
          refine .mk g rfl (by omega) (by omega) ?_
          conv => whnf
          refine .hp (iv w') (by rw [Int.toNat_natCast]; exact k1 1 _ rfl) ?_
          conv => whnf
          refine .mk g2 hD (by omega) (by omega) ?_
          conv => whnf
          refine .hp (iv w') (by rw [Int.toNat_natCast]; exact hc 1 _ rfl) ?_
          conv => whnf
          refine br_dec (fun h3 => absurd rfl h3) (fun _ => ?_)
          conv => whnf
          refine .mk g rfl (by omega) (by omega) ?_
          conv => whnf
          refine .hp (.slice B' m2 c2) (by rw [Int.toNat_natCast]; exact k1 2 _ rfl) ?_
          conv => whnf
          refine .mk g2 hD (by omega) (by omega) ?_
          conv => whnf
          refine .hp (.slice B m2 cc) (by rw [Int.toNat_natCast]; exact hc 2 _ rfl) ?_
          conv => whnf
          refine br_dec (fun h3 => absurd rfl h3) (fun _ => ?_)
          conv => whnf
          refine .mk g2 hD (by omega) (by omega) ?_
          conv => whnf
          refine .hp (.slice B m2 cc) (by rw [Int.toNat_natCast]; exact hc 2 _ rfl) ?_
          conv => whnf
          refine br_dec (fun h3 => ?_) (fun h3 => ?_)
          · conv => whnf
            refine .mk g rfl (by omega) (by omega) ?_
            conv => whnf
            refine .hp (.slice B' m2 c2) (by rw [Int.toNat_natCast]; exact k1 2 _ rfl) ?_
            conv => whnf
            refine .mk g2 hD (by omega) (by omega) ?_
            conv => whnf
            refine .hp (.slice B m2 cc) (by rw [Int.toNat_natCast]; exact hc 2 _ rfl) ?_
            conv => whnf
            refine .mk _ (kept19 N b (by omega) (by omega) b' B' B m2 c2 cc h' hbb ⟨k2, ?_, ?_⟩ hb) (fun v h' ⟨_, e⟩ => by rw [e]; exact Hp.le_refl _) ?_
            · rcases k3 with k3 | ⟨g', _, k3, _⟩
              · subst k3; simp only [Lo.len] at k2; omega
              · exact k3
            · rcases k3 with k3 | ⟨g', k3, _, k5⟩
              · subst k3; simp only [Lo.len] at k2; omega
              · exact ⟨g', k3, k5⟩
            rintro _ _ ⟨rfl, rfl⟩
            conv => whnf
            refine .ok (by omega) (by omega) ?_
            conv => whnf
            exact ⟨(i + 1, q, r), rfl, rfl, ⟨rfl, hr, k4, hqr, by omega⟩, by show m - (i + 1) < m - i; omega⟩
          · conv => whnf
            refine .ok (by omega) (by omega) ?_
            conv => whnf
            exact ⟨(i + 1, q, r), rfl, rfl, ⟨rfl, hr, k4, hqr, by omega⟩, by show m - (i + 1) < m - i; omega⟩
    · conv => whnf
      cases r with
      | nil =>
        have := ht.fin
        subst this
        obtain rfl := Lo.fo_nil hqr
        refine .ok (by omega) (by omega) ?_
        conv => whnf
        refine .mk 0 (i + 1) rfl rfl (Nat.zero_le _) (by omega) fun E hE1 _ => ?_
        obtain rfl : E = some g := by rw [hE1 (by omega), map_add0]
        conv => whnf
        refine .mk g rfl (by omega) (by omega) ?_
        conv => whnf
        refine .hp (iv markI) (by rw [Int.toNat_natCast]; exact hq) ?_
        conv => whnf
        exact .done ⟨rfl, rfl⟩
      | cons => obtain ⟨g, hA, hi, _⟩ := ht.open; omega
end Go.Sx
