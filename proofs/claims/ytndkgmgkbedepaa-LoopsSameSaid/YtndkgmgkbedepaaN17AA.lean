/- Lists of loops that share no memory: marks in them and behind them. Conditions: none. -/
import Derived.Test.YtndkgmgkbedepaaN17Y
namespace Go.Sx
open Go.Proofs
set_option maxRecDepth 100000
def mk3 (i n : Nat) : List (List Value) := (List.range n).map fun (k : Nat) => lcells (i : Int) (k : Int) none 0 0
def tl3 (i k : Nat) : List (List Value) := (List.range k).map fun (q : Nat) => lcells (0 - (i : Int) - 1) (q : Int) none 0 0
theorem mk3_wid (i n : Nat) : ∀ r ∈ mk3 i n, r.length = 3 := fun r hr => by obtain ⟨k, _, rfl⟩ := List.mem_map.1 hr; rfl
theorem tl3_wid (i k : Nat) : ∀ r ∈ tl3 i k, r.length = 3 := fun r hr => by obtain ⟨k, _, rfl⟩ := List.mem_map.1 hr; rfl
theorem mt3_wid (i n k : Nat) : ∀ r ∈ mk3 i n ++ tl3 i k, r.length = 3 := fun r hr => by
  rcases List.mem_append.1 hr with h | h
  · exact mk3_wid i n r h
  · exact tl3_wid i k r h
theorem mk3_len (i n : Nat) : (mk3 i n).length = n := by simp [mk3]
theorem tl3_len (i k : Nat) : (tl3 i k).length = k := by simp [tl3]
theorem tl3_add (i k : Nat) : tl3 i (k + 1) = tl3 i k ++ [lcells (0 - (i : Int) - 1) (k : Int) none 0 0] := by simp [tl3, List.range_succ]
theorem over_pre {α : Type} : ∀ (old r S : List α), r.length = old.length → over (old ++ S) 0 r = some (r ++ S)
  | [], [], S, _ => by cases S <;> rfl
  | [], _ :: _, _, h => by simp at h
  | _ :: _, [], _, h => by simp at h
  | o :: old, y :: r, S, h => by
    simp only [List.cons_append, over, over_pre old r S (by simpa using h)]
theorem over_mid {α : Type} (old r S : List α) (h : r.length = old.length) : ∀ (P : List α), over (P ++ (old ++ S)) P.length r = some (P ++ (r ++ S))
  | [] => over_pre old r S h
  | x :: P => by
    simp only [List.cons_append, List.length_cons, over, over_mid old r S h P]
theorem rows_split {rows : List (List Value)} {k : Nat} (hk : k < rows.length) : rows = rows.take k ++ (rows[k] :: rows.drop (k + 1)) := by
  rw [List.getElem_cons_drop, List.take_append_drop]
theorem rows_set {rows : List (List Value)} {k : Nat} (hk : k < rows.length) (r : List Value) : rows.set k r = rows.take k ++ (r :: rows.drop (k + 1)) := by
  rw [List.set_eq_take_append_cons_drop, if_pos hk]
theorem RowAt.write3 {h : Hp} {ety n cap k : Nat} {A : Option Addr} {rows : List (List Value)} (x : RowAt h ety 3 A n cap rows.flatten) (hw : ∀ r ∈ rows, r.length = 3) (hk : k < n) {r : List Value} (hr : r.length = 3) :
    ∃ g cs cs', A = some ⟨g, 0, none⟩ ∧ h g = some (.cells cs.toArray ety (0, 0)) ∧ over cs (k * 3) r = some cs' ∧ RowAt (h.put g (.cells cs'.toArray ety (0, 0))) ety 3 A n cap (rows.set k r).flatten := by
  have hl : rows.length = n := (x.tab hw (by decide)).len
  obtain ⟨h1, h2⟩ := x
  rcases h2 with ⟨_, h2, _⟩ | ⟨g, cur, q1, q2, q3, q4, q5, q6⟩
  · omega
  · have hkr : k < rows.length := by omega
    have e1 := rows_split hkr
    have hP : (rows.take k).flatten.length = k * 3 := by
      rw [flat_wid _ fun r hr => hw r (List.mem_of_mem_take hr), List.length_take]; congr 1; omega
    have hold : rows[k].length = 3 := hw _ (List.getElem_mem hkr)
    have hcur : cur.toList = (rows.take k).flatten ++ (rows[k] ++ ((rows.drop (k + 1)).flatten ++ cur.toList.drop (n * 3))) := by
      have hF : rows.flatten = (rows.take k).flatten ++ (rows[k] ++ (rows.drop (k + 1)).flatten) := by
        conv => lhs; rw [e1]
        rw [List.flatten_append, List.flatten_cons]
      conv => lhs; rw [← List.take_append_drop (n * 3) cur.toList, q6, hF]
      simp only [List.append_assoc]
    have ho := over_mid rows[k] r ((rows.drop (k + 1)).flatten ++ cur.toList.drop (n * 3)) (by rw [hr, hold]) (rows.take k).flatten
    rw [← hcur, hP] at ho
    have hset : (rows.set k r).flatten = (rows.take k).flatten ++ (r ++ (rows.drop (k + 1)).flatten) := by
      rw [rows_set hkr, List.flatten_append, List.flatten_cons]
    have hsl : (rows.set k r).flatten.length = n * 3 := by
      rw [flat_wid, List.length_set, hl]
      intro y hy
      rcases List.mem_or_eq_of_mem_set hy with hy | rfl
      · exact hw y hy
      · exact hr
    have hnew : (rows.take k).flatten ++ (r ++ ((rows.drop (k + 1)).flatten ++ cur.toList.drop (n * 3))) = (rows.set k r).flatten ++ cur.toList.drop (n * 3) := by
      rw [hset]; simp only [List.append_assoc]
    rw [hnew] at ho
    refine ⟨g, cur.toList, _, q1, by simpa using q2, ho, hsl, .inr ⟨g, ((rows.set k r).flatten ++ cur.toList.drop (n * 3)).toArray, q1, Hp.put_same _ _ _, q3, q4, ?_, ?_⟩⟩
    · have hle : n * 3 ≤ cap * 3 := Nat.mul_le_mul_right 3 q3
      simp only [List.size_toArray, List.length_append, hsl, List.length_drop, Array.length_toList, q5]
      omega
    · show ((rows.set k r).flatten ++ cur.toList.drop (n * 3)).take (n * 3) = _
      rw [← hsl]; exact List.take_left
theorem Tab.mem3 {h : Hp} {n : Nat} {g : Addr} {rows : List (List Value)} (t : Tab h 3 (some g) n rows) (hn : n ≠ 0) : h g.block ≠ none := by
  have hl := t.len
  have h0 : 0 < rows.length := by omega
  have hw := t.wid _ (List.getElem_mem h0)
  have := t.cell g rfl 0 rows[0] (List.getElem?_eq_getElem h0) 0 (rows[0][0]'(by omega)) (List.getElem?_eq_getElem _)
  intro hb
  have hbk : (g.add (0 * 3 + 0)).block = g.block := by unfold Addr.add; split <;> rfl
  unfold Hp.cell? at this
  rw [hbk, hb] at this
  simp at this
theorem Tab.empty3 (h : Hp) (A : Option Addr) (rows : List (List Value)) (hr : rows = []) : Tab h 3 A 0 rows := by subst hr; exact Tab.nil h 3 A
theorem mk3_zero (i : Nat) : mk3 i 0 = [] := rfl
/-- a list (A, n) with its marks, and one grown out of it by k -/
structure Pair3 (X : Hp) (i n k : Nat) (A A' : Option Addr) (c' : Nat) : Prop where
  row : RowAt X 41 3 A' (n + k) c' (mk3 i n ++ tl3 i k).flatten
  two : A' = A ∨ (Tab X 3 A n (mk3 i n) ∧ (n = 0 ∨ ∀ g g', A = some g → A' = some g' → g.block ≠ g'.block))
theorem mt3_tab {X : Hp} {i n k c' : Nat} {A' : Option Addr} (row : RowAt X 41 3 A' (n + k) c' (mk3 i n ++ tl3 i k).flatten) : Tab X 3 A' n (mk3 i n) := by
  have := (row.tab (mt3_wid i n k) (by decide)).take (k := n) (by omega)
  rwa [List.take_left' (by simp [mk3_len])] at this
theorem Pair3.tab {X : Hp} {i n k c' : Nat} {A A' : Option Addr} (p : Pair3 X i n k A A' c') : Tab X 3 A n (mk3 i n) := by
  rcases p.two with rfl | h
  · exact mt3_tab p.row
  · exact h.1
theorem Pair3.zero {X : Hp} {i n c : Nat} {A : Option Addr} (r : RowAt X 41 3 A n c (mk3 i n).flatten) : Pair3 X i n 0 A A c := ⟨by simpa [tl3] using r, .inl rfl⟩
theorem Pair3.inplace {B h h2 : Hp} {m i n k c' : Nat} {A : Option Addr} {g' : Addr} {X : Nat → Hp} (f : FamA B h m X) (hi : i < m) (p : Pair3 (X i) i n k A (some g') c') (hle : (delA h (some g')).le h2) (hr : RowAt h2 41 3 (some g') (n + (k + 1)) c' (mk3 i n ++ tl3 i (k + 1)).flatten) :
    FamA B h2 m (updJ X i (h2.on (pairS n A g'))) ∧ Pair3 (h2.on (pairS n A g')) i n (k + 1) A (some g') c' := by
  have hg' := p.row.mem rfl
  refine ⟨f.upd hi (fun j o e => ?_) (Hp.on_le _ _) (fun j hj => ?_), ?_⟩
  · obtain ⟨e1, e2⟩ := Hp.minus_some e
    exact hle j o (by rw [delA, Hp.del_ne _ (fun q => hg' (by rw [← q]; exact e1))]; exact e2)
  · rcases Hp.on_ne hj with rfl | ⟨hn, g, rfl, rfl⟩
    · exact Hp.minus_in hg'
    · exact Hp.minus_in (p.tab.mem3 hn)
  · refine ⟨hr.on fun q e => by injection e with e; subst e; exact .inl rfl, ?_⟩
    rcases p.two with q | ⟨q1, q2⟩
    · exact .inl q
    · refine .inr ⟨?_, q2⟩
      by_cases hn : n = 0
      · subst hn; exact Tab.empty3 _ _ _ rfl
      · rcases q2 with q2 | q2
        · exact absurd q2 hn
        · refine q1.at_ fun g hg => ?_
          subst hg
          rw [Hp.on_of (.inr ⟨hn, g, rfl, rfl⟩)]
          have hne := q2 g g' rfl rfl
          cases e : X i g.block with
          | none => exact absurd e (q1.mem3 hn)
          | some o => exact (hle _ _ (by rw [delA, Hp.del_ne _ hne]; exact f.sub i hi _ _ e)).symm
theorem Pair3.moved {B h h1 h2 : Hp} {m i n k c' c2 : Nat} {A A' : Option Addr} {g2 : Addr} {X : Nat → Hp} (f : FamA B h m X) (hi : i < m) (p : Pair3 (X i) i n k A A' c') (hle : (delA h A').le h1) (ho : RowAt h1 41 3 A' (n + k) c' (mk3 i n ++ tl3 i k).flatten) (hle2 : h1.le h2)
    (hr : RowAt h2 41 3 (some g2) (n + (k + 1)) c2 (mk3 i n ++ tl3 i (k + 1)).flatten) (hf : h1 g2.block = none) :
    FamA B h2 m (updJ X i (h2.on (pairS n A g2))) ∧ Pair3 (h2.on (pairS n A g2)) i n (k + 1) A (some g2) c2 := by
  have hmin : (h.minus (X i)).le h1 := fun j o e => by
    obtain ⟨e1, e2⟩ := Hp.minus_some e
    cases A' with
    | none => exact hle j o e2
    | some g' => exact hle j o (by rw [delA, Hp.del_ne _ (fun q => p.row.mem rfl (by rw [← q]; exact e1))]; exact e2)
  refine ⟨f.upd hi (fun j o e => hle2 j o (hmin j o e)) (Hp.on_le _ _) (fun j hj => ?_), ?_⟩
  · rcases Hp.on_ne hj with rfl | ⟨hn, g, rfl, rfl⟩
    · exact le_none hmin hf
    · exact Hp.minus_in (p.tab.mem3 hn)
  · refine ⟨hr.on fun q e => by injection e with e; subst e; exact .inl rfl, .inr ?_⟩
    by_cases hn : n = 0
    · subst hn; exact ⟨Tab.empty3 _ _ _ rfl, .inl rfl⟩
    · have ht : Tab h1 3 A n (mk3 i n) := by
        rcases p.two with q | ⟨q1, q2⟩
        · subst q
          exact mt3_tab ho
        · rcases q2 with q2 | q2
          · exact absurd q2 hn
          · refine q1.at_ fun g hg => ?_
            subst hg
            cases e : X i g.block with
            | none => exact absurd e (q1.mem3 hn)
            | some o =>
              refine (hle _ _ ?_).symm
              cases A' with
              | none => exact f.sub i hi _ _ e
              | some g' => rw [delA, Hp.del_ne _ (q2 g g' rfl rfl)]; exact f.sub i hi _ _ e
      refine ⟨(ht.mono hle2).at_ fun g hg => ?_, .inr fun g g' e1 e2 q => ?_⟩
      · rw [Hp.on_of (.inr ⟨hn, g, hg, rfl⟩)]
      · injection e2 with e2; subst e2; subst e1
        exact ht.mem3 hn (by rw [q]; exact hf)
/-- the lists of loops, as they lie -/
def Raw3 (X : Hp) (s : Sl) (l : List (List Value)) : Prop := l.length = s.2.1 ∧ (∀ r ∈ l, r.length = 3) ∧ RowAt X 41 3 s.1 s.2.1 s.2.2 l.flatten
/-- lists of loops, each in a part of the heap that is its own -/
def Sep (h : Hp) : List Sl → Prop
  | [] => True
  | s :: r => ∃ X1 X2 : Hp, X1.le h ∧ X2.le h ∧ (∀ j, X1 j ≠ none → X2 j = none) ∧ (∃ l, Raw3 X1 s l) ∧ Sep X2 r
theorem Sep.mono {h h' : Hp} (x : h.le h') : ∀ {l : List Sl}, Sep h l → Sep h' l
  | [], _ => trivial
  | _ :: _, ⟨X1, X2, a, b, c⟩ => ⟨X1, X2, Hp.le_trans a x, Hp.le_trans b x, c⟩
theorem Sep.app {h1 h2 h : Hp} (d : ∀ j, h1 j ≠ none → h2 j = none) (x : h1.le h) (y : h2.le h) {ys : List Sl} (s2 : Sep h2 ys) : ∀ {xs : List Sl}, Sep h1 xs → Sep h (xs ++ ys)
  | [], _ => s2.mono y
  | _ :: r, ⟨X1, X2, a, b, c, e, f⟩ => ⟨X1, X2.or h2, Hp.le_trans a x, Hp.or_le (Hp.le_trans b x) y, fun j hj => Hp.or_none (c j hj) (d j fun q => hj (le_none a q)), e,
      Sep.app (fun j hj => d j fun q => hj (le_none b q)) (Hp.le_or _ _) (Hp.le_or2 fun j hj => by
        cases q : X2 j with
        | none => rfl
        | some o => exact absurd (d j (by rw [b j o q]; simp)) hj) s2 f⟩
theorem Sep.fam {I : List Sl} : ∀ {h : Hp}, Sep h I → ∃ X : Nat → Hp, (∀ i (hi : i < I.length), (X i).le h ∧ ∃ l, Raw3 (X i) I[i] l) ∧ (∀ i k, i < I.length → k < I.length → i ≠ k → ∀ j, X i j ≠ none → X k j = none) := by
  induction I with
  | nil => exact fun {h} _ => ⟨fun _ => h, fun i hi => by simp at hi, fun i k hi => by simp at hi⟩
  | cons s r ih =>
    rintro h ⟨X1, X2, a, b, c, d, e⟩
    obtain ⟨X, f1, f2⟩ := ih e
    refine ⟨fun i => match i with | 0 => X1 | i + 1 => X i, fun i hi => ?_, fun i k hi hk hne j hj => ?_⟩
    · cases i with
      | zero => exact ⟨a, d⟩
      | succ i => exact ⟨Hp.le_trans (f1 i (by simpa using hi)).1 b, (f1 i (by simpa using hi)).2⟩
    · cases i with
      | zero =>
        cases k with
        | zero => exact absurd rfl hne
        | succ k => exact le_none (f1 k (by simpa using hk)).1 (c j hj)
      | succ i =>
        cases k with
        | zero =>
          show X1 j = none
          cases q : X1 j with
          | none => rfl
          | some o =>
            have : X2 j = none := c j (by rw [q]; simp)
            exact absurd (le_none (f1 i (by simpa using hi)).1 this) hj
        | succ k => exact f2 i k (by simpa using hi) (by simpa using hk) (by omega) j hj
/-- A nest's bodies, each list in a block of its own. -/
def UB (X : Hp) : Lo → Prop
  | .nil => True
  | .cons _ _ B m c b r => ∃ X1 X2 : Hp, X1.le X ∧ X2.le X ∧ (∀ j, X1 j ≠ none → X2 j = none) ∧ (m = b.len ∧ (b = .nil ∨ ∃ hB, RowAt X1 41 3 B m c b.cl.flatten ∧ (∀ g, B = some g → hB g.block = none) ∧ hB.le X1 ∧ UB hB b)) ∧ UB X2 r
structure UW (X : Hp) (A : Option Addr) (m c : Nat) (l : Lo) : Prop where
  len : m = l.len
  ex : ∃ hB, RowAt X 41 3 A m c l.cl.flatten ∧ (∀ g, A = some g → hB g.block = none) ∧ hB.le X ∧ UB hB l
theorem RowAt.less {h : Hp} {ety size n k cap : Nat} {A : Option Addr} {xs ys : List Value} (x : RowAt h ety size A (n + k) cap (xs ++ ys)) (hl : xs.length = n * size) : A ≠ none → RowAt h ety size A n cap xs := by
  intro hA
  obtain ⟨h1, h2⟩ := x
  rcases h2 with ⟨h2, _⟩ | ⟨g, cur, q1, q2, q3, q4, q5, q6⟩
  · exact absurd h2 hA
  · refine ⟨hl, .inr ⟨g, cur, q1, q2, by omega, q4, q5, ?_⟩⟩
    have : cur.toList.take (n * size) = (cur.toList.take ((n + k) * size)).take (n * size) := by
      rw [List.take_take]; congr 1; rw [Nat.add_mul]; omega
    rw [this, q6, ← hl]; exact List.take_left
theorem mark_less {h : Hp} {m c : Nat} {A : Option Addr} {l : Lo} (hm : m = l.len) (x : RowAt h 41 3 A (m + 1) c (l.cl.flatten ++ markRow)) : RowAt h 41 3 A m c l.cl.flatten := by
  refine x.less (by rw [flat_wid _ l.cl_wid, l.cl_len, hm]) fun q => ?_
  subst q
  rcases x.2 with ⟨_, q, _⟩ | ⟨_, _, q, _⟩
  · omega
  · cases q
theorem ob_ub : ∀ (l : Lo) (X : Hp), OB X l → UB X l
  | .nil, _, _ => trivial
  | .cons _ _ _ _ _ b r, _, ⟨X1, X2, a1, a2, a3, ⟨hm, hb⟩, hr⟩ => ⟨X1, X2, a1, a2, a3, ⟨hm, hb.imp id fun ⟨hB, q1, q2, q3, q4⟩ => ⟨hB, mark_less hm q1, q2, q3, ob_ub b hB q4⟩⟩, ob_ub r X2 hr⟩
theorem OW.uw {X : Hp} {A : Option Addr} {m c : Nat} {l : Lo} (s : OW X A m c l) : UW X A m c l :=
  ⟨s.len, let ⟨hB, a, b, c, d⟩ := s.ex; ⟨hB, mark_less s.len a, b, c, ob_ub l hB d⟩⟩
/-- all lists of a nest's bodies -/
def bods : Lo → List Sl
  | .nil => []
  | .cons _ _ B m c b r => (if m = 0 then [] else bods b ++ [(B, m, c)]) ++ bods r
theorem bods_cnt : ∀ l : Lo, (bods l).length ≤ l.cnt
  | .nil => Nat.le_refl _
  | .cons _ _ _ _ _ b r => by
    have h1 := bods_cnt b
    have h2 := bods_cnt r
    simp only [bods, Lo.cnt]
    split
    · simp; omega
    · simp; omega
theorem sep_one {X : Hp} {A : Option Addr} {m c : Nat} {rows : List (List Value)} (hl : rows.length = m) (hw : ∀ r ∈ rows, r.length = 3) (q : RowAt X 41 3 A m c rows.flatten) : Sep (X.blk A) [(A, m, c)] :=
  ⟨X.blk A, fun _ => none, Hp.le_refl _, (fun _ _ e => by cases e), (fun _ _ => rfl), ⟨rows, hl, hw, q.blk⟩, trivial⟩
theorem bods_sep : ∀ (l : Lo) (X : Hp), UB X l → Sep X (bods l)
  | .nil, _, _ => trivial
  | .cons _ _ B m c b r, X, ⟨X1, X2, a1, a2, a3, ⟨hm, hb⟩, hr⟩ => by
    have h2 := bods_sep r X2 hr
    simp only [bods]
    split
    · exact h2.mono a2
    · rename_i hm0
      rcases hb with hb | ⟨hB, q1, q2, q3, q4⟩
      · subst hb; exact absurd hm hm0
      · have h1 := bods_sep b hB q4
        refine Sep.app a3 a1 a2 h2 (Sep.app (h2 := X1.blk B) (fun j hj => ?_) q3 (Hp.blk_le _ _) (sep_one (by rw [b.cl_len, hm]) b.cl_wid q1) h1)
        cases q : X1.blk B j with
        | none => rfl
        | some o =>
          obtain ⟨g, e1, rfl⟩ := Hp.blk_in (by rw [q]; simp)
          exact absurd (q2 g e1) hj
def colL (A : Option Addr) (m c : Nat) (l : Lo) : List Sl := bods l ++ [(A, m, c)]
theorem UW.sep {X : Hp} {A : Option Addr} {m c : Nat} {l : Lo} (s : UW X A m c l) : Sep X (colL A m c l) := by
  obtain ⟨hB, q1, q2, q3, q4⟩ := s.ex
  refine Sep.app (h2 := X.blk A) (fun j hj => ?_) q3 (Hp.blk_le _ _) (sep_one (by rw [l.cl_len, s.len]) l.cl_wid q1) (bods_sep l hB q4)
  cases q : X.blk A j with
  | none => rfl
  | some o =>
    obtain ⟨g, e1, rfl⟩ := Hp.blk_in (by rw [q]; simp)
    exact absurd (q2 g e1) hj
theorem sep_nil (h : Hp) : Sep h (colL none 0 0 .nil) := ⟨fun _ => none, fun _ => none, (fun _ _ e => by cases e), (fun _ _ e => by cases e), (fun _ _ => rfl), ⟨[], rfl, (fun _ h => by cases h), rfl, .inl ⟨rfl, rfl, rfl⟩⟩, trivial⟩
theorem ub_bd : ∀ (l : Lo) (X : Hp), UB X l → Bdw SK X l
  | .nil, _, _ => trivial
  | .cons _ _ B m _ b r, X, ⟨X1, X2, a1, a2, _, ⟨hm, hb⟩, hr⟩ => ⟨by
      rcases hb with hb | ⟨hB, q1, q2, q3, q4⟩
      · exact ⟨hm, .inl hb⟩
      · have := Tab.sat (l := b) (A := B) (n := m) (RowAt.tab q1 b.cl_wid (by decide)) ((ub_bd b hB q4).mono SK.mono q3)
        exact SAt.mono a1 this, (ub_bd r X2 hr).mono SK.mono a2⟩
end Go.Sx
namespace Go.Sx
open Go.Proofs
set_option maxRecDepth 100000
/-- a list of slices under way -/
structure RowS (h h' : Hp) (D : Option Addr) (n c : Nat) (q : List Sl) : Prop where
  le : h.le h'
  row : RowAt h' 22 1 D n c (q.map slv)
  fr : ∀ g, D = some g → h g.block = none
theorem RowS.nil (h : Hp) : RowS h h none 0 0 [] := ⟨Hp.le_refl h, ⟨rfl, .inl ⟨rfl, rfl, rfl⟩⟩, fun _ e => by cases e⟩
theorem RowS.n {h h' : Hp} {D : Option Addr} {n c : Nat} {q : List Sl} (x : RowS h h' D n c q) : n = q.length := by
  have := x.row.1
  simp at this
  exact this.symm
theorem slv_one (l : List Sl) : ∀ u ∈ l.map slv, u.oneCell' = true := by
  intro u hu
  obtain ⟨z, _, rfl⟩ := List.mem_map.1 hu
  rfl
theorem lists49 : ∀ (N : Nat) (l : Lo), l.cnt < N → l.cnt ≤ 200000 → ∀ (A : Option Addr) (m cap : Nat) (base h : Hp) (D : Option Addr) (n c : Nat) (q : List Sl), SAt base A m l → RowS base h D n c q → q.length + l.cnt ≤ 600000 →
    Fn Try.prog 38 #[.slice A m cap, .slice D n c] h fun v h' => ∃ D' n' c', v = .slice D' n' c' ∧ RowS base h' D' n' c' (q ++ colL A m cap l)
  | 0, l, hN, _ => absurd hN (Nat.not_lt_zero _)
  | N + 1, l, hN, hc0 => by
    intro A m cap base h D n c q hs hq hql
    have hm : m ≤ 200000 := by have := hs.1; have := l.len_cnt; omega
    refine Fn.intro (args := [.slice A m cap, .slice D n c]) mix16 Try.func38 rfl (by decide) Try.ntmps38 rfl (low38 rfl) rfl ?_
    conv => whnf
    refine .mk (Nat × Option Addr × Nat × Nat × List Sl × Lo) [0, 1, 5] (fun (i, D, n, c, _, _) => [.v (.slice A m cap), .v (.slice D n c), .v (iv i)]) (fun _ => [])
      (fun (i, D, n, c, q', r) h' => RowS base h' D n c q' ∧ Tl base A m i r ∧ r.cnt ≤ l.cnt ∧ q'.length + r.cnt ≤ 600000 ∧ q' ++ bods r = q ++ bods l) (fun (i, _, _, _, _, _) => m - i) (0, D, n, c, q, l) (fun _ => rfl) ⟨hq, hs.tl, Nat.le_refl _, hql, rfl⟩ rfl rfl ?_
    rintro ⟨i, D, n, c, q', r⟩ e h' ⟨hq, ht, hrl, hql, he⟩
    conv => whnf
    refine br_dec (fun h2 => ?_) (fun h2 => ?_)
    · cases r with
      | nil => have := ht.fin; omega
      | cons t w B m' cc b r =>
        obtain ⟨g, hA, hi, hc, hb, hr⟩ := ht.open
        simp only [Lo.cnt] at hrl hql
        conv => whnf
        refine .mk g hA (by omega) (by omega) ?_
        conv => whnf
        refine .hp (.slice B m' cc) (by rw [Int.toNat_natCast]; exact Hp.cell_le hq.le (hc 2 _ rfl)) ?_
        conv => whnf
        refine br_dec (fun h3 => ?_) (fun h3 => ?_)
        · conv => whnf
          refine .mk g hA (by omega) (by omega) ?_
          conv => whnf
          refine .hp (.slice B m' cc) (by rw [Int.toNat_natCast]; exact Hp.cell_le hq.le (hc 2 _ rfl)) ?_
          conv => whnf
          refine .done (.mk _ (lists49 N b (by omega) (by omega) B m' cc base h' D n c q' hb hq (by omega)) ?_)
          rintro _ h2 ⟨D2, n2, c2, rfl, hq2⟩
          conv => whnf
          refine .ok (by omega) (by omega) ?_
          conv => whnf
          have hbc := bods_cnt b
          refine ⟨(i + 1, D2, n2, c2, q' ++ colL B m' cc b, r), rfl, rfl, ⟨hq2, hr, by omega, ?_, ?_⟩, by show m - (i + 1) < m - i; omega⟩
          · simp only [colL, List.length_append, List.length_singleton]; omega
          · rw [← he]
            simp only [bods, colL]
            rw [if_neg (by omega)]
            simp only [List.append_assoc]
        · conv => whnf
          refine .ok (by omega) (by omega) ?_
          conv => whnf
          refine ⟨(i + 1, D, n, c, q', r), rfl, rfl, ⟨hq, hr, by omega, by omega, ?_⟩, by show m - (i + 1) < m - i; omega⟩
          rw [← he]
          simp only [bods]
          rw [if_pos (by omega)]
          rfl
    · conv => whnf
      cases r with
      | nil =>
        have hn := hq.n
        simp only [bods, List.append_nil] at he
        refine .abs 22 1 D n c _ hq.row (.done (.old 1 _ [.slice A m cap] rfl rfl (slv_one [(A, m, cap)]) (by simp [maxLen]; simp only [Lo.cnt] at hql; omega) (by simp only [Lo.cnt] at hql; omega) fun D2 c3 hD2 => ?_))
        conv => whnf
        refine .pub 1 22 1 D2 (n + 1) c3 _ rfl fun h3 l3 hro hf => .done ⟨D2, n + 1, c3, rfl, ?_⟩
        have hA : base.le (delA h' D) := delA_none hq.le hq.fr
        refine ⟨Hp.le_trans hA l3, ?_, fun g e => Hp.none_le hA (hf g e)⟩
        rw [← show q' ++ [(A, m, cap)] = q ++ colL A m cap l by rw [he, colL, List.append_assoc], List.map_append]
        exact hro
      | cons => obtain ⟨g, hA, hi, _⟩ := ht.open; omega
end Go.Sx
