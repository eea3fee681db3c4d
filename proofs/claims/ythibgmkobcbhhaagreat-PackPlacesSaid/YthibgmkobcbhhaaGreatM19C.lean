/- Layer 19: which arcs clash, plain; a map of pairs that is filled and gone through. Conditions: none. -/
import Derived.Test.YthibgmkobcbhhaaGreatS19B
namespace Go.Sx
open Go.Proofs Go.Sort
def posAt (r : List Int) (i : Nat) : Bool := decide (0 < r.getD i 0)
def meets (rows : List (List Int)) (i j : Nat) : Bool := rows.any fun r => posAt r i && posAt r j
abbrev Pr := Int × Int
def pairsR (rows : List (List Int)) (m : Nat) : List Pr := (List.range m).flatMap fun i => ((List.range' (i + 1) (m - (i + 1))).filter (meets rows i)).map fun j : Nat => ((i : Int), (j : Int))
def PL (a b : Pr) : Prop := a.1 < b.1 ∨ a.1 = b.1 ∧ a.2 < b.2
theorem pl_irr (a : Pr) : ¬ PL a a := by unfold PL; omega
theorem pl_tr {a b c : Pr} : PL a b → PL b c → PL a c := by unfold PL; omega
theorem strict_ext : ∀ xs ys : List Pr, xs.Pairwise PL → ys.Pairwise PL → (∀ a, a ∈ xs ↔ a ∈ ys) → xs = ys
  | [], [], _, _, _ => rfl
  | [], y :: ys, _, _, h => by have := (h y).2 (List.mem_cons_self ..); cases this
  | x :: xs, [], _, _, h => by have := (h x).1 (List.mem_cons_self ..); cases this
  | x :: xs, y :: ys, hx, hy, h => by
    obtain ⟨h1, h2⟩ := List.pairwise_cons.1 hx
    obtain ⟨h3, h4⟩ := List.pairwise_cons.1 hy
    have e : x = y := by
      rcases List.mem_cons.1 ((h x).1 (List.mem_cons_self ..)) with e | e
      · exact e
      · rcases List.mem_cons.1 ((h y).2 (List.mem_cons_self ..)) with e2 | e2
        · exact e2.symm
        · exact absurd (pl_tr (h1 _ e2) (h3 _ e)) (pl_irr _)
    subst e
    rw [strict_ext xs ys h2 h4 fun a => ?_]
    constructor
    · intro ha
      rcases List.mem_cons.1 ((h a).1 (List.mem_cons_of_mem _ ha)) with e | e
      · subst e; exact absurd (h1 _ ha) (pl_irr _)
      · exact e
    · intro ha
      rcases List.mem_cons.1 ((h a).2 (List.mem_cons_of_mem _ ha)) with e | e
      · subst e; exact absurd (h3 _ ha) (pl_irr _)
      · exact e
theorem pairs_mem {rows : List (List Int)} {m : Nat} {p : Pr} : p ∈ pairsR rows m ↔ ∃ i j : Nat, p = ((i : Int), (j : Int)) ∧ i < j ∧ j < m ∧ meets rows i j = true := by
  unfold pairsR
  simp only [List.mem_flatMap, List.mem_range, List.mem_map, List.mem_filter, List.mem_range'_1]
  constructor
  · rintro ⟨i, hi, j, ⟨⟨a, b⟩, c⟩, rfl⟩
    exact ⟨i, j, rfl, by omega, by omega, c⟩
  · rintro ⟨i, j, rfl, a, b, c⟩
    exact ⟨i, by omega, j, ⟨⟨by omega, by omega⟩, c⟩, rfl⟩
theorem pairs_sorted (rows : List (List Int)) (m : Nat) : (pairsR rows m).Pairwise PL := by
  unfold pairsR
  rw [List.pairwise_flatMap]
  refine ⟨fun i _ => ?_, ?_⟩
  · rw [List.pairwise_map]
    refine List.Pairwise.filter _ ?_
    refine List.Pairwise.imp (fun {a b} (h : a < b) => ?_) (List.pairwise_lt_range' (s := i + 1) (n := m - (i + 1)))
    exact .inr ⟨rfl, by show (a : Int) < (b : Int); omega⟩
  · refine List.Pairwise.imp (fun {a b} (h : a < b) x hx y hy => ?_) List.pairwise_lt_range
    obtain ⟨p, _, rfl⟩ := List.mem_map.1 hx
    obtain ⟨q, _, rfl⟩ := List.mem_map.1 hy
    exact .inl (by show (a : Int) < (b : Int); omega)
theorem sorted_is {xs ys : List Pr} {rows : List (List Int)} {m : Nat} (s : Sorted (ltOf cfP) xs ys) (hn : xs.Nodup) (hm : ∀ p, p ∈ xs ↔ p ∈ pairsR rows m) : ys = pairsR rows m := by
  refine strict_ext _ _ ?_ (pairs_sorted rows m) fun a => (s.perm.mem_iff).trans (hm a)
  have hn' : ys.Nodup := (s.perm.nodup_iff).2 hn
  have := s.ord.and hn'
  refine this.imp fun {a b} h => ?_
  obtain ⟨h1, h2⟩ := h
  rw [ltP] at h1
  have h1 := of_decide_eq_false h1
  unfold PL
  have : ¬ (a.1 = b.1 ∧ a.2 = b.2) := fun q => h2 (Prod.ext q.1 q.2)
  omega
theorem nodup_inj {α β : Type} {f : α → β} : ∀ {l : List α}, (l.map f).Nodup → ∀ {x y}, x ∈ l → y ∈ l → f x = f y → x = y
  | [], _, _, _, h, _, _ => by cases h
  | a :: l, hn, x, y, hx, hy, e => by
    rw [List.map_cons, List.nodup_cons] at hn
    rcases List.mem_cons.1 hx with q1 | q1
    · rcases List.mem_cons.1 hy with q2 | q2
      · rw [q1, q2]
      · exact absurd (by rw [← q1, e]; exact List.mem_map_of_mem q2) hn.1
    · rcases List.mem_cons.1 hy with q2 | q2
      · exact absurd (by rw [← q2, ← e]; exact List.mem_map_of_mem q1) hn.1
      · exact nodup_inj hn.2 q1 q2 e
/-! ### the map -/
theorem assoc_key {k : List Int} : ∀ l : List Ent, (assoc l k).isSome = true ↔ k ∈ l.map (·.k)
  | [] => by simp [assoc]
  | x :: l => by
    simp only [assoc, List.map_cons, List.mem_cons]
    by_cases h : k = x.k
    · simp [h]
    · rw [if_neg h, assoc_key l]; simp [h]
theorem upsert_maps (k : List Int) (v : Value) (c : Nat) : ∀ l : List Ent, (upsert l k v c).map (·.k) = (if (assoc l k).isSome then l.map (·.k) else l.map (·.k) ++ [k]) ∧ (upsert l k v c).map (·.born) = (if (assoc l k).isSome then l.map (·.born) else l.map (·.born) ++ [c])
  | [] => by simp [upsert, assoc]
  | x :: l => by
    obtain ⟨h1, h2⟩ := upsert_maps k v c l
    simp only [upsert, assoc]
    by_cases h : k = x.k
    · simp [h]
    · simp only [if_neg h, List.map_cons, h1, h2]
      constructor <;> split <;> simp
structure Mp (h : Hp) (b : Nat) (S : Nat → Nat → Prop) (l : List Ent) (clk : Nat) : Prop where
  at_ : h b = some (mapObj 7 l clk)
  sub : ∀ k ∈ l.map (·.k), ∃ i j : Nat, k = [(i : Int), (j : Int)] ∧ S i j
  all : ∀ i j : Nat, S i j → [(i : Int), (j : Int)] ∈ l.map (·.k)
  nd : (l.map (·.k)).Nodup
  bn : ∀ x ∈ l.map (·.born), x < clk
  bd : (l.map (·.born)).Nodup
theorem Mp.mapAt {h : Hp} {b : Nat} {S : Nat → Nat → Prop} {l : List Ent} {clk : Nat} (m : Mp h b S l clk) : MapAt h b 7 l clk :=
  ⟨m.at_, fun x hx => by obtain ⟨i, j, e, _⟩ := m.sub _ (List.mem_map_of_mem (f := (·.k)) hx); rw [e]; rfl⟩
theorem Mp.start {h : Hp} {b : Nat} (hb : h b = some (.map #[] 0)) : Mp h b (fun _ _ => False) [] 0 :=
  ⟨hb, (fun _ h => by cases h), (fun _ _ h => h.elim), .nil, (fun _ h => by cases h), .nil⟩
theorem Mp.eqv {h : Hp} {b : Nat} {S T : Nat → Nat → Prop} {l : List Ent} {clk : Nat} (m : Mp h b S l clk) (e : ∀ i j, S i j ↔ T i j) : Mp h b T l clk :=
  ⟨m.at_, fun k hk => by obtain ⟨i, j, a, c⟩ := m.sub k hk; exact ⟨i, j, a, (e i j).1 c⟩, fun i j hij => m.all i j ((e i j).2 hij), m.nd, m.bn, m.bd⟩
theorem Mp.ins {h h2 : Hp} {b : Nat} {S : Nat → Nat → Prop} {l : List Ent} {clk : Nat} (m : Mp h b S l clk) (i j : Nat) (v : Value) : Mp (h2.put b (mapObj 7 (upsert l [(i : Int), (j : Int)] v clk) (if (assoc l [(i : Int), (j : Int)]).isSome then clk else clk + 1))) b (fun p q => S p q ∨ (p = i ∧ q = j)) (upsert l [(i : Int), (j : Int)] v clk) (if (assoc l [(i : Int), (j : Int)]).isSome then clk else clk + 1) := by
  obtain ⟨h1, h2⟩ := upsert_maps [(i : Int), (j : Int)] v clk l
  have hk := assoc_key (k := [(i : Int), (j : Int)]) l
  refine ⟨Hp.put_same _ _ _, ?_, ?_, ?_, ?_, ?_⟩
  · intro k hkm
    rw [h1] at hkm
    split at hkm
    · obtain ⟨p, q, a, c⟩ := m.sub k hkm
      exact ⟨p, q, a, .inl c⟩
    · rcases List.mem_append.1 hkm with hkm | hkm
      · obtain ⟨p, q, a, c⟩ := m.sub k hkm
        exact ⟨p, q, a, .inl c⟩
      · exact ⟨i, j, List.mem_singleton.1 hkm, .inr ⟨rfl, rfl⟩⟩
  · intro p q hpq
    rw [h1]
    rcases hpq with hpq | ⟨rfl, rfl⟩
    · have := m.all p q hpq
      split
      · exact this
      · exact List.mem_append_left _ this
    · split
      · rename_i hs; exact hk.1 hs
      · exact List.mem_append_right _ (List.mem_singleton.2 rfl)
  · rw [h1]
    split
    · exact m.nd
    · rename_i hs
      rw [List.nodup_append]
      refine ⟨m.nd, by simp, fun a ha c hc e => ?_⟩
      rw [List.mem_singleton.1 hc] at e
      subst e
      exact hs (hk.2 ha)
  · intro x hx
    rw [h2] at hx
    split at hx
    · rename_i hs; rw [if_pos hs]; exact m.bn x hx
    · rename_i hs
      rw [if_neg hs]
      rcases List.mem_append.1 hx with hx | hx
      · have := m.bn x hx; omega
      · rw [List.mem_singleton.1 hx]; omega
  · rw [h2]
    split
    · exact m.bd
    · rw [List.nodup_append]
      refine ⟨m.bd, by simp, fun a ha c hc e => ?_⟩
      rw [List.mem_singleton.1 hc] at e
      subst e
      have := m.bn _ ha
      omega
/-! ### it is gone through -/
def lf (l : List Ent) (seen : Array Nat) : List Ent := l.filter fun x => !seen.contains x.born
theorem left_lf (l : List Ent) (seen : Array Nat) : (leftOf (l.map (entOf 7)).toArray seen).toList = (lf l seen).map (entOf 7) := by
  unfold leftOf lf
  simp only [Array.toList_filter, List.filter_map]
  rfl
theorem lf_lt {l : List Ent} {seen : Array Nat} {x : Ent} (hx : x ∈ lf l seen) : (lf l (seen.push x.born)).length < (lf l seen).length := by
  have e : lf l (seen.push x.born) = (lf l seen).filter fun y => !(y.born == x.born) := by
    unfold lf
    rw [List.filter_filter]
    congr 1
    funext y
    simp [Bool.beq_eq_decide_eq]
    rw [Bool.and_comm]
  rw [e, List.length_filter_lt_length_iff_exists]
  exact ⟨x, hx, by simp⟩
structure Gone (l : List Ent) (seen : Array Nat) (outs : List Pr) : Prop where
  nd : outs.Nodup
  sub : ∀ p ∈ outs, ∃ x ∈ l, x.k = [p.1, p.2] ∧ seen.contains x.born = true
  all : ∀ x ∈ l, seen.contains x.born = true → ∃ p ∈ outs, x.k = [p.1, p.2]
theorem Gone.start (l : List Ent) : Gone l #[] [] := ⟨.nil, (fun _ h => by cases h), fun x _ h => by simp at h⟩
theorem Gone.step {l : List Ent} {seen : Array Nat} {outs : List Pr} (g : Gone l seen outs) (hk : (l.map (·.k)).Nodup) (hb : (l.map (·.born)).Nodup) {x : Ent} (hx : x ∈ lf l seen) {p : Pr} (hp : x.k = [p.1, p.2]) : Gone l (seen.push x.born) (outs ++ [p]) := by
  obtain ⟨hx1, hx2⟩ := List.mem_filter.1 hx
  have hx2 : seen.contains x.born = false := by simpa using hx2
  refine ⟨?_, fun q hq => ?_, fun y hy hs => ?_⟩
  · rw [List.nodup_append]
    refine ⟨g.nd, by simp, fun a ha c hc e => ?_⟩
    rw [List.mem_singleton.1 hc] at e
    subst e
    obtain ⟨y, hy, e2, e3⟩ := g.sub _ ha
    have := nodup_inj hk hx1 hy (hp.trans e2.symm)
    subst this
    rw [hx2] at e3; cases e3
  · rcases List.mem_append.1 hq with hq | hq
    · obtain ⟨y, hy, e2, e3⟩ := g.sub q hq
      exact ⟨y, hy, e2, by rw [Array.contains_push, e3]; simp⟩
    · rw [List.mem_singleton.1 hq]
      exact ⟨x, hx1, hp, by simp⟩
  · rw [Array.contains_push] at hs
    by_cases e : y.born = x.born
    · have := nodup_inj hb hy hx1 e
      subst this
      exact ⟨p, List.mem_append_right _ (List.mem_singleton.2 rfl), hp⟩
    · have hs' : seen.contains y.born = true := by
        rcases Bool.or_eq_true _ _ ▸ hs with h | h
        · first | exact h | exact absurd (by simpa using h) e
        · first | exact h | exact absurd (by simpa using h) e
      obtain ⟨q, hq, e2⟩ := g.all y hy hs'
      exact ⟨q, List.mem_append_left _ hq, e2⟩
theorem Gone.done {h : Hp} {b : Nat} {S : Nat → Nat → Prop} {l : List Ent} {clk : Nat} {seen : Array Nat} {outs : List Pr} (g : Gone l seen outs) (m : Mp h b S l clk) (h0 : lf l seen = []) (p : Pr) : p ∈ outs ↔ ∃ i j : Nat, p = ((i : Int), (j : Int)) ∧ S i j := by
  constructor
  · intro hp
    obtain ⟨x, hx, e, _⟩ := g.sub p hp
    obtain ⟨i, j, e2, hs⟩ := m.sub _ (List.mem_map_of_mem (f := (·.k)) hx)
    rw [e] at e2
    injection e2 with q1 q2
    injection q2 with q2 _
    exact ⟨i, j, Prod.ext q1 q2, hs⟩
  · rintro ⟨i, j, rfl, hs⟩
    obtain ⟨x, hx, e⟩ := List.mem_map.1 (m.all i j hs)
    have hsn : seen.contains x.born = true := by
      refine Decidable.byContradiction fun hn => ?_
      have : x ∈ lf l seen := List.mem_filter.2 ⟨hx, by simpa using hn⟩
      rw [h0] at this
      cases this
    obtain ⟨p, hp, e2⟩ := g.all x hx hsn
    have e : x.k = [(i : Int), (j : Int)] := e
    rw [e] at e2
    injection e2 with q1 q2
    injection q2 with q2 _
    rw [show ((i : Int), (j : Int)) = p from Prod.ext q1 q2]
    exact hp
end Go.Sx
namespace Go.Sx
open Go.Proofs Go.Sort
set_option maxRecDepth 100000
theorem updL_self : ∀ (slots : List Nat) (e : Env), updL e slots (slots.map e) = e
  | [], e => rfl
  | d :: ds, e => by
    have h1 : upd e d (e d) = e := by
      funext t
      unfold upd
      cases hb : Nat.beq t d with
      | true => rw [Nat.eq_of_beq_eq_true hb]; rfl
      | false => rfl
    rw [List.map_cons, updL, h1]
    exact updL_self ds e
abbrev Lc (N : Int) (A : Option Addr) (n cap : Nat) : List LE := [.own [.v (iv N), .v (.slice A n cap)] 24]
theorem posAt_is {row : List Int} {i : Nat} (h : i < row.length) : posAt row i = decide (0 < row[i]) := by
  unfold posAt; rw [List.getD_eq_getElem?_getD, List.getElem?_eq_getElem h]; rfl
theorem clash3 {hB : Hp} {b m j : Nat} {row : List Int} {R : Option Addr} {cr : Nat} (hb : hB b = none) (hr : Tab hB 1 R m (row.map fun z => [iv z])) (hm : m ≤ 1000000) (hj : j < m) (N : Int) (A : Option Addr) (n cap : Nat) {S : Nat → Nat → Prop} {l : List Ent} {clk : Nat}
    (x : Mp (hB.put b (mapObj 7 l clk)) b S l clk) (V25 V26 V27 : Value) (Q : Post) (e : Env) (he : [8, 10, 11, 25, 26, 27, 32, 33].map e = [.v (.map (some b)), .v (.slice R m cr), .v (iv j), .v V25, .v V26, .v V27, .v (iv m), .v (iv j)])
    (hQ : ∀ e' l' clk', Mp (hB.put b (mapObj 7 l' clk')) b (fun p q => S p q ∨ (q = j ∧ p < j ∧ posAt row p = true ∧ posAt row j = true)) l' clk' → [8, 10, 25, 26, 27, 32, 33].map e' = [.v (.map (some b)), .v (.slice R m cr), .v V25, .v V26, .v V27, .v (iv m), .v (iv j)] → Q .normal e' (Lc N A n cap) (hB.put b (mapObj 7 l' clk'))) :
    wpIR Tryz.prog 72 (.seq (.reg ir31_r12) (.block 4 (.loop ir31_l3))) Q e (Lc N A n cap) (hB.put b (mapObj 7 l clk)) := by
  have hself := updL_self [8, 10, 11, 25, 26, 27, 32, 33] e
  rw [he] at hself
  rw [← hself]
  have hml : row.length = m := by simpa using hr.len
  have hput : ∀ o, hB.le (hB.put b o) := fun o => Hp.le_put hb
  conv => whnf
  refine .mk (Nat × List Ent × Nat) [8, 10, 11, 25, 26, 27, 32, 33, 36, 37] (fun (i, _, _) => [.v (.map (some b)), .v (.slice R m cr), .v (iv j), .v V25, .v V26, .v V27, .v (iv m), .v (iv j), .v (iv j), .v (iv i)]) (fun _ => Lc N A n cap)
    (fun (i, l, clk) h' => h' = hB.put b (mapObj 7 l clk) ∧ i ≤ j ∧ Mp h' b (fun p q => S p q ∨ (q = j ∧ p < i ∧ posAt row p = true ∧ posAt row j = true)) l clk) (fun (i, _, _) => j - i) (0, l, clk) (fun (_, _, _) => rfl) ⟨rfl, Nat.zero_le _, x.eqv fun p q => ⟨.inl, fun h => h.elim id fun h => by omega⟩⟩ rfl rfl ?_
  rintro ⟨i, l, clk⟩ e h' ⟨rfl, hij, x⟩
  conv => whnf
  refine br_dec (fun u => ?_) (fun u => ?_)
  · have hi : i < m := by omega
    obtain ⟨g, hg⟩ := hr.ad (by omega)
    have hp1 := posAt_is (row := row) (i := i) (by omega)
    have hp2 := posAt_is (row := row) (i := j) (by omega)
    have load : ∀ q (hq : q < m) (o : Obj), (hB.put b o).cell? (g.add ((q : Int).toNat * 1)) = some (iv (row[q]'(by omega))) := fun q hq o => by
      rw [Int.toNat_natCast]; exact (hr.mono (hput o)).one hg (r := [iv (row[q]'(by omega))]) (by simp [hml, hq]) rfl
    have skip : ¬ (posAt row i = true ∧ posAt row j = true) → Mp (hB.put b (mapObj 7 l clk)) b (fun p q => S p q ∨ (q = j ∧ p < i + 1 ∧ posAt row p = true ∧ posAt row j = true)) l clk := fun hno => x.eqv fun p q => ⟨fun h => h.imp id fun h => ⟨h.1, by omega, h.2.2⟩, fun h => h.imp id fun ⟨h1, h2, h3⟩ => ⟨h1, by
      rcases Nat.lt_or_ge p i with h | h
      · exact h
      · have : p = i := by omega
        subst this; exact absurd h3 hno, h3⟩⟩
    conv => whnf
    refine .mk g hg (by omega) (by omega) ?_
    conv => whnf
    refine .hp (iv (row[i]'(by omega))) (load i hi _) ?_
    conv => whnf
    refine br_dec (fun u1 => ?_) (fun u1 => ?_)
    · conv => whnf
      refine .mk g hg (by omega) (by omega) ?_
      conv => whnf
      refine .hp (iv (row[j]'(by omega))) (load j hj _) ?_
      conv => whnf
      refine br_dec (fun u2 => ?_) (fun u2 => ?_)
      · conv => whnf
        refine .mkC l clk x.mapAt ?_
        rw [Hp.put_put]
        have y := x.ins (h2 := hB) i j (iv 1)
        conv => whnf
        refine .ok (by omega) (by omega) ?_
        conv => whnf
        refine ⟨(i + 1, upsert l [(i : Int), (j : Int)] (iv 1) clk, if (assoc l [(i : Int), (j : Int)]).isSome then clk else clk + 1), rfl, rfl, ⟨rfl, by omega, y.eqv fun p q => ?_⟩, by show j - (i + 1) < j - i; omega⟩
        have t1 : posAt row i = true := by rw [hp1]; exact decide_eq_true u1
        have t2 : posAt row j = true := by rw [hp2]; exact decide_eq_true u2
        constructor
        · rintro ((h | ⟨h1, h2, h3⟩) | ⟨rfl, rfl⟩)
          · exact .inl h
          · exact .inr ⟨h1, by omega, h3⟩
          · exact .inr ⟨rfl, by omega, t1, t2⟩
        · rintro (h | ⟨h1, h2, h3⟩)
          · exact .inl (.inl h)
          · rcases Nat.lt_or_ge p i with h | h
            · exact .inl (.inr ⟨h1, h, h3⟩)
            · exact .inr ⟨by omega, h1⟩
      · conv => whnf
        refine .ok (by omega) (by omega) ?_
        conv => whnf
        exact ⟨(i + 1, l, clk), rfl, rfl, ⟨rfl, by omega, skip fun h => u2 (of_decide_eq_true (hp2 ▸ h.2))⟩, by show j - (i + 1) < j - i; omega⟩
    · conv => whnf
      refine .ok (by omega) (by omega) ?_
      conv => whnf
      exact ⟨(i + 1, l, clk), rfl, rfl, ⟨rfl, by omega, skip fun h => u1 (of_decide_eq_true (hp1 ▸ h.1))⟩, by show j - (i + 1) < j - i; omega⟩
  · have : i = j := by omega
    subst this
    conv => whnf
    exact hQ _ l clk x rfl
theorem clash2 {hB : Hp} {b m : Nat} {row : List Int} {R : Option Addr} {cr : Nat} (hb : hB b = none) (hr : Tab hB 1 R m (row.map fun z => [iv z])) (hm : m ≤ 1000000) (N : Int) (A : Option Addr) (n cap : Nat) {S : Nat → Nat → Prop} {l : List Ent} {clk : Nat}
    (x : Mp (hB.put b (mapObj 7 l clk)) b S l clk) (V25 V26 V27 : Value) (Q : Post) (e : Env) (he : [8, 10, 25, 26, 27].map e = [.v (.map (some b)), .v (.slice R m cr), .v V25, .v V26, .v V27])
    (hQ : ∀ e' l' clk', Mp (hB.put b (mapObj 7 l' clk')) b (fun p q => S p q ∨ (p < q ∧ q < m ∧ posAt row p = true ∧ posAt row q = true)) l' clk' → [8, 25, 26, 27].map e' = [.v (.map (some b)), .v V25, .v V26, .v V27] → Q .normal e' (Lc N A n cap) (hB.put b (mapObj 7 l' clk'))) :
    wpIR Tryz.prog 72 (.seq (.reg ir31_r9) (.block 2 (.loop ir31_l2))) Q e (Lc N A n cap) (hB.put b (mapObj 7 l clk)) := by
  have hself := updL_self [8, 10, 25, 26, 27] e
  rw [he] at hself
  rw [← hself]
  conv => whnf
  refine .mk (Nat × List Ent × Nat) [8, 10, 25, 26, 27, 32, 33] (fun (j, _, _) => [.v (.map (some b)), .v (.slice R m cr), .v V25, .v V26, .v V27, .v (iv m), .v (iv j)]) (fun _ => Lc N A n cap)
    (fun (j, l, clk) h' => h' = hB.put b (mapObj 7 l clk) ∧ j ≤ m ∧ Mp h' b (fun p q => S p q ∨ (p < q ∧ q < j ∧ posAt row p = true ∧ posAt row q = true)) l clk) (fun (j, _, _) => m - j) (0, l, clk) (fun (_, _, _) => rfl) ⟨rfl, Nat.zero_le _, x.eqv fun p q => ⟨.inl, fun h => h.elim id fun h => by omega⟩⟩ rfl rfl ?_
  rintro ⟨j, l, clk⟩ e h' ⟨rfl, hjm, x⟩
  show wpIR Tryz.prog 72 (.seq (.reg ir31_r10) (.seq (.cond (.t 34) .skip (.exit 2)) (.seq (.block 3 (.seq (.reg ir31_r11) (.seq (.reg ir31_r12) (.block 4 (.loop ir31_l3))))) (.reg ir31_r18)))) _ _ _ _
  generalize hc0 : IR.seq (.reg ir31_r12) (.block 4 (.loop ir31_l3)) = c0
  conv => whnf
  refine br_dec (fun u => ?_) (fun u => ?_)
  · have hj : j < m := by omega
    conv => whnf
    subst hc0
    refine clash3 hb hr hm hj N A n cap x V25 V26 V27 _ _ rfl fun e' l' clk' y he' => ?_
    have hself := updL_self [8, 10, 25, 26, 27, 32, 33] e'
    rw [he'] at hself
    rw [← hself]
    conv => whnf
    refine .ok (by omega) (by omega) ?_
    conv => whnf
    refine ⟨(j + 1, l', clk'), rfl, rfl, ⟨rfl, by omega, y.eqv fun p q => ?_⟩, by show m - (j + 1) < m - j; omega⟩
    constructor
    · rintro ((h | ⟨h1, h2, h3⟩) | ⟨h1, h2, h3⟩)
      · exact .inl h
      · exact .inr ⟨h1, by omega, h3⟩
      · subst h1; exact .inr ⟨h2, by omega, h3⟩
    · rintro (h | ⟨h1, h2, h3⟩)
      · exact .inl (.inl h)
      · rcases Nat.lt_or_ge q j with h | h
        · exact .inl (.inr ⟨h1, h, h3⟩)
        · have : q = j := by omega
          subst this
          exact .inr ⟨rfl, h1, h3⟩
  · have : j = m := by omega
    subst this
    conv => whnf
    exact hQ _ l clk x rfl
end Go.Sx
namespace Go.Sx
open Go.Proofs Go.Sort
set_option maxRecDepth 100000
theorem Hp.none_le {h h' : Hp} (x : h.le h') {j : Nat} (e : h' j = none) : h j = none := by
  cases q : h j with
  | none => rfl
  | some o => rw [x _ _ q] at e; cases e
theorem meets_iff {rows : List (List Int)} {p q : Nat} : meets rows p q = true ↔ ∃ k, k < rows.length ∧ posAt (rows.getD k []) p = true ∧ posAt (rows.getD k []) q = true := by
  unfold meets
  rw [List.any_eq_true]
  constructor
  · rintro ⟨r, hr, h⟩
    obtain ⟨k, hk, e⟩ := List.getElem_of_mem hr
    refine ⟨k, hk, ?_⟩
    rw [List.getD_eq_getElem?_getD, List.getElem?_eq_getElem hk]
    simpa [e] using h
  · rintro ⟨k, hk, h1, h2⟩
    rw [List.getD_eq_getElem?_getD, List.getElem?_eq_getElem hk] at h1 h2
    exact ⟨rows[k], List.getElem_mem hk, by simp at h1 h2; simp [h1, h2]⟩
theorem clash1 {hB : Hp} {b m : Nat} {rows : List (List Int)} {B : Option Addr} {cB : Nat} {J : Nat → Option Addr × Nat} (hb : hB b = none) (hL : ListsAt hB B rows J) (hlen : ∀ i, i < rows.length → (rows.getD i []).length = m) (hm : m ≤ 1000000) (hK : rows.length ≤ 1000000) (N : Int) (A : Option Addr) (n cap : Nat)
    (x : Mp (hB.put b (mapObj 7 [] 0)) b (fun _ _ => False) [] 0) (Q : Post) (e : Env) (he : [6, 8].map e = [.v (.slice B rows.length cB), .v (.map (some b))])
    (hQ : ∀ e' l' clk', Mp (hB.put b (mapObj 7 l' clk')) b (fun p q => p < q ∧ q < m ∧ meets rows p q = true) l' clk' → [8].map e' = [.v (.map (some b))] → Q .normal e' (Lc N A n cap) (hB.put b (mapObj 7 l' clk'))) :
    wpIR Tryz.prog 72 (.seq (.reg ir31_r6) (.block 0 (.loop ir31_l1))) Q e (Lc N A n cap) (hB.put b (mapObj 7 [] 0)) := by
  have hself := updL_self [6, 8] e
  rw [he] at hself
  rw [← hself]
  conv => whnf
  refine .mk (Nat × List Ent × Nat) [8, 25, 26, 27] (fun (k, _, _) => [.v (.map (some b)), .v (.slice B rows.length cB), .v (iv rows.length), .v (iv k)]) (fun _ => Lc N A n cap)
    (fun (k, l, clk) h' => h' = hB.put b (mapObj 7 l clk) ∧ k ≤ rows.length ∧ Mp h' b (fun p q => p < q ∧ q < m ∧ ∃ k', k' < k ∧ posAt (rows.getD k' []) p = true ∧ posAt (rows.getD k' []) q = true) l clk) (fun (k, _, _) => rows.length - k) (0, [], 0) (fun (_, _, _) => rfl) ⟨rfl, Nat.zero_le _, x.eqv fun p q => ⟨False.elim, fun ⟨_, _, k', h, _⟩ => absurd h (Nat.not_lt_zero _)⟩⟩ rfl rfl ?_
  rintro ⟨k, l, clk⟩ e h' ⟨rfl, hkm, x⟩
  show wpIR Tryz.prog 72 (.seq (.reg ir31_r7) (.seq (.cond (.t 28) .skip (.exit 0)) (.seq (.block 1 (.seq (.reg ir31_r8) (.seq (.reg ir31_r9) (.block 2 (.loop ir31_l2))))) (.reg ir31_r19)))) _ _ _ _
  generalize hc0 : IR.seq (.reg ir31_r9) (.block 2 (.loop ir31_l2)) = c0
  conv => whnf
  refine br_dec (fun u => ?_) (fun u => ?_)
  · have hk : k < rows.length := by omega
    obtain ⟨g, hg⟩ := hL.outer.ad (by omega)
    have hin := hL.inner k hk
    rw [hlen k hk] at hin
    conv => whnf
    refine .mk g hg (by omega) (by omega) ?_
    conv => whnf
    refine .hp (.slice (J k).1 m (J k).2) (by rw [Int.toNat_natCast]; exact (hL.outer.mono (Hp.le_put hb)).one hg (map_range hk) (by rw [hlen k hk]; rfl)) ?_
    conv => whnf
    subst hc0
    refine clash2 hb hin hm N A n cap x _ _ _ _ _ rfl fun e' l' clk' y he' => ?_
    have hself := updL_self [8, 25, 26, 27] e'
    rw [he'] at hself
    rw [← hself]
    conv => whnf
    refine .ok (by omega) (by omega) ?_
    conv => whnf
    refine ⟨(k + 1, l', clk'), rfl, rfl, ⟨rfl, by omega, y.eqv fun p q => ?_⟩, by show rows.length - (k + 1) < rows.length - k; omega⟩
    constructor
    · rintro (⟨h1, h2, k', h3, h4⟩ | ⟨h1, h2, h3⟩)
      · exact ⟨h1, h2, k', by omega, h4⟩
      · exact ⟨h1, h2, k, by omega, h3⟩
    · rintro ⟨h1, h2, k', h3, h4⟩
      rcases Nat.lt_or_ge k' k with h | h
      · exact .inl ⟨h1, h2, k', h, h4⟩
      · have : k' = k := by omega
        subst this
        exact .inr ⟨h1, h2, h4⟩
  · have : k = rows.length := by omega
    subst this
    conv => whnf
    exact hQ _ l clk (x.eqv fun p q => by rw [meets_iff]) rfl
/-- the loop that gathers -/
structure Gst (hB : Hp) (b r : Nat) (S : Nat → Nat → Prop) (l : List Ent) (clk : Nat) (h' : Hp) (seen : Array Nat) (outs : List Pr) (E : Option Addr) (ec : Nat) : Prop where
  le : hB.le h'
  mp : Mp h' b S l clk
  it : h' r = some (.mapIter (some b) clk seen clk)
  go : Gone l seen outs
  row : RowAt h' 73 2 E outs.length ec (outs.map pc).flatten
  fE : ∀ g, E = some g → hB g.block = none ∧ g.block ≠ b ∧ g.block ≠ r
theorem Mp.of {h h' : Hp} {b : Nat} {S : Nat → Nat → Prop} {l : List Ent} {clk : Nat} (m : Mp h b S l clk) (e : h' b = h b) : Mp h' b S l clk := ⟨e.trans m.at_, m.sub, m.all, m.nd, m.bn, m.bd⟩
theorem clash4 {hB : Hp} {b r : Nat} {S : Nat → Nat → Prop} {l : List Ent} {clk : Nat} (hbr : r ≠ b) (hr0 : hB r = none) (hlim : ∀ outs : List Pr, outs.Nodup → (∀ p ∈ outs, ∃ i j : Nat, p = ((i : Int), (j : Int)) ∧ S i j) → outs.length ≤ 1000000) {H : Hp} (g0 : Gst hB b r S l clk H #[] [] none 0) (Q : Post) (e : Env) (L : List LE) (he : [13, 60].map e = [.v (.slice none 0 0), .v (.pointer (some ⟨r, 0, none⟩))])
    (hQ : ∀ e' h' (outs : List Pr) E ec, hB.le h' → outs.Nodup → (∀ p : Pr, p ∈ outs ↔ ∃ i j : Nat, p = ((i : Int), (j : Int)) ∧ S i j) → (∀ g, E = some g → hB g.block = none) → [13].map e' = [.v (.slice E outs.length ec)] → Q .normal e' [.row 73 2 E outs.length ec (outs.map pc).flatten] h') :
    wpIR Tryz.prog 72 (.block 6 (.loop ir31_l4)) Q e L H := by
  have hself := updL_self [13, 60] e
  rw [he] at hself
  rw [← hself]
  conv => whnf
  refine .mkS [] (Array Nat × List Pr × Option Addr × Nat) [13, 60] (fun (_, outs, E, ec) => [.v (.slice E outs.length ec), .v (.pointer (some ⟨r, 0, none⟩))]) (fun _ => [])
    (fun (seen, outs, E, ec) h' => Gst hB b r S l clk h' seen outs E ec) (fun (seen, _, _, _) => (lf l seen).length) (#[], [], none, 0) (fun (_, _, _, _) => rfl) g0 rfl rfl rfl ?_
  rintro ⟨seen, outs, E, ec⟩ e h' g
  have hX : hB.le (delA h' E) := delA_none g.le fun q hq => (g.fE q hq).1
  have hdl : ∀ j, (∀ q, E = some q → j ≠ q.block) → delA h' E j = h' j := fun j hj => by
    cases E with
    | none => rfl
    | some q => exact Hp.del_ne _ (hj q rfl)
  have eb : delA h' E b = h' b := hdl b fun q hq => Ne.symm (g.fE q hq).2.1
  have er : delA h' E r = h' r := hdl r fun q hq => Ne.symm (g.fE q hq).2.2
  have mx := g.mp.of eb
  refine .abs 73 2 E outs.length ec _ g.row (.done ?_)
  conv => whnf
  refine .mk b clk clk clk seen (l.map (entOf 7)).toArray (er.trans g.it) mx.at_ (fun x hx => ?_) (Nat.le_refl _) (fun h0 => ?_) (fun en hen => ?_)
  · obtain ⟨y, hy, rfl⟩ := List.mem_map.1 (by simpa using hx : x ∈ l.map (entOf 7))
    exact g.mp.bn _ (List.mem_map_of_mem (f := (·.born)) hy)
  · have hz : lf l seen = [] := by
      have h1 := left_lf l seen
      have h2 : (leftOf (l.map (entOf 7)).toArray seen).toList = [] := List.eq_nil_of_length_eq_zero (by simpa using h0)
      rw [h2] at h1
      exact List.map_eq_nil_iff.1 h1.symm
    conv => whnf
    exact hQ _ _ outs E ec hX g.go.nd (g.go.done g.mp hz) (fun q hq => (g.fE q hq).1) rfl
  · rw [left_lf] at hen
    obtain ⟨x, hx, rfl⟩ := List.mem_map.1 hen
    obtain ⟨hx1, hx2⟩ := List.mem_filter.1 hx
    obtain ⟨i, j, hk, hS⟩ := g.mp.sub _ (List.mem_map_of_mem (f := (·.k)) hx1)
    have hkey : (entOf 7 x).key = .agg #[iv i, iv j] := by show keyVal 7 x.k = _; rw [hk]; rfl
    have hbo : (entOf 7 x).born = x.born := rfl
    have hsub : ∀ p ∈ outs, ∃ i j : Nat, p = ((i : Int), (j : Int)) ∧ S i j := fun p hp => by
      obtain ⟨y, hy, e1, _⟩ := g.go.sub p hp
      obtain ⟨i', j', e2, hs⟩ := g.mp.sub _ (List.mem_map_of_mem (f := (·.k)) hy)
      rw [e1] at e2
      injection e2 with q1 q2
      injection q2 with q2 _
      exact ⟨i', j', Prod.ext q1 q2, hs⟩
    have hle := hlim outs g.go.nd hsub
    rw [hkey, hbo]
    conv => whnf
    refine .mk b clk clk seen (l.map (entOf 7)).toArray (entOf 7 x) (Hp.put_same _ _ _) ((Hp.put_ne _ _ (Ne.symm hbr)).trans mx.at_) (by simpa using List.mem_map_of_mem (f := entOf 7) hx1) ?_ ?_
    · have e1 : (l.map (entOf 7)).toArray.toList.map (·.born) = l.map (·.born) := by simp [entOf, Function.comp_def]
      rw [e1]; exact g.mp.bd
    rw [hkey]
    conv => whnf
    refine .done (.old 0 _ [iv i, iv j] rfl rfl (by intro u hu; simp at hu; rcases hu with rfl | rfl <;> rfl) (by simp [maxLen]; omega) (by omega) fun E2 ec2 hE2 => ?_)
    conv => whnf
    refine .pub 0 73 2 E2 (outs.length + 1) ec2 _ rfl fun h4 l4 ro4 f4 => .done ⟨(seen.push x.born, outs ++ [((i : Int), (j : Int))], E2, ec2), ?_, rfl, ?_, lf_lt hx⟩
    · show _ = [SV.v (.slice E2 (outs ++ [((i : Int), (j : Int))]).length ec2), SV.v (.pointer (some ⟨r, 0, none⟩))]
      rw [List.length_append]; rfl
    · have n1 : ∀ q, E2 = some q → q.block ≠ r := fun q hq e => by
        have := f4 q hq
        rw [e, Hp.put_same] at this
        cases this
      have n2 : ∀ q, E2 = some q → delA h' E q.block = none := fun q hq => by
        have := f4 q hq
        rwa [Hp.put_ne _ _ (n1 q hq)] at this
      have hR : hB.le ((delA h' E).put r (.mapIter (some b) clk (seen.push x.born) clk)) := fun j' o hj' => by
        rw [Hp.put_ne _ _ (fun q => by rw [q, hr0] at hj'; cases hj')]
        exact hX _ _ hj'
      refine ⟨Hp.le_trans hR l4, mx.of ?_, l4 _ _ (Hp.put_same _ _ _), g.go.step g.mp.nd g.mp.bd hx hk, ?_, fun q hq => ⟨Hp.none_le hX (n2 q hq), fun e => ?_, n1 q hq⟩⟩
      · rw [mx.at_]
        exact l4 _ _ ((Hp.put_ne _ _ (Ne.symm hbr)).trans mx.at_)
      · rw [List.length_append, List.map_append, List.flatten_append]
        exact ro4
      · have := n2 q hq
        rw [e, mx.at_] at this
        cases this
theorem all_pairs (m : Nat) (outs : List Pr) (hn : outs.Nodup) (h : ∀ p ∈ outs, ∃ i j : Nat, p = ((i : Int), (j : Int)) ∧ i < m ∧ j < m) : outs.length ≤ m * m := by
  have h1 := List.Nodup.length_le_of_subset (l₂ := (List.range m).flatMap fun i : Nat => (List.range m).map fun j : Nat => ((i : Int), (j : Int))) hn fun p hp => by
    obtain ⟨i, j, rfl, a, b⟩ := h p hp
    exact List.mem_flatMap.2 ⟨i, List.mem_range.2 a, List.mem_map.2 ⟨j, List.mem_range.2 b, rfl⟩⟩
  refine Nat.le_trans h1 (Nat.le_of_eq ?_)
  have : ∀ k : Nat, ((List.range k).map fun _ => m).sum = k * m := fun k => by
    induction k with
    | zero => simp
    | succ k ih => rw [List.range_succ, List.map_append, List.sum_append, ih]; simp [Nat.succ_mul]
  simp only [List.length_flatMap, List.length_map, List.length_range]
  exact this m
/-- what Clash answers -/
def ClashOk (h : Hp) (N : Int) (arcs : List Arc) (zs : List Int) (v : Value) (h' : Hp) : Prop :=
  h.le h' ∧ ((along N arcs zs).1 ≠ 0 → v = .tuple #[.slice none 0 0, iv (along N arcs zs).1]) ∧
    ((along N arcs zs).1 = 0 → ∃ E c, v = .tuple #[.slice E (pairsR (along N arcs zs).2 arcs.length).length c, iv 0] ∧ RowAt h' 73 2 E (pairsR (along N arcs zs).2 arcs.length).length c ((pairsR (along N arcs zs).2 arcs.length).map pc).flatten ∧ ∀ g, E = some g → h g.block = none)
theorem clash11 (N : Int) (n cap : Nat) (arcs : List Arc) (A D : Option Addr) (r cap2 : Nat) (zs : List Int) (h : Hp) (ht : Tab h 5 A n (arcs.map Arc.cells)) (hn : n * 40 ≤ 140737488355328) (hz : Tab h 1 D r (zs.map fun z => [iv z])) :
    Fn Tryz.prog 31 #[netV N A n cap, .slice D r cap2] h fun v h' => ClashOk h N arcs zs v h' := by
  refine Fn.intro (args := [netV N A n cap, .slice D r cap2]) mix14 Tryz.func31 rfl (by decide) Tryz.ntmps31 rfl (low31 rfl) rfl ?_
  conv => whnf
  refine .done (.mk _ (along12 N n cap arcs A D r cap2 zs h ht hn hz) ?_)
  rintro v h1 ⟨hle, hb, hg⟩
  by_cases he : (along N arcs zs).1 = 0
  · obtain ⟨v, X, rfl, ⟨B, c, J, rfl, hra⟩, hX, hdX⟩ := hg he
    have hL := (hra.lists).mono hX
    have hlen := hra.lens
    have hchk : chk N arcs = 0 := by
      refine Decidable.byContradiction fun hs => ?_
      rw [along_bad hs] at he
      exact hs he
    have hm := (chk_zero hchk).2.2.1
    have hsz := along_size N arcs zs
    obtain ⟨rows, hrows⟩ : ∃ rows, (along N arcs zs).2 = rows := ⟨_, rfl⟩
    rw [hrows] at hL hlen hsz ⊢
    generalize hc1 : IR.seq (IR.reg ir31_r6) (IR.block 0 (IR.loop ir31_l1)) = c1
    generalize hc4 : IR.block 6 (IR.loop ir31_l4) = c4
    conv => whnf
    refine .mk fun b hb => ?_
    conv => whnf
    subst hc1
    refine clash1 hb hL hlen (by omega) (by omega) N A n cap (Mp.start (Hp.put_same _ _ _)) _ _ rfl fun e1 l clk x he1 => ?_
    have hself := updL_self [8] e1
    rw [he1] at hself
    rw [← hself]
    conv => whnf
    refine .mk (l.map (entOf 7)).toArray clk x.at_ fun r hr => ?_
    conv => whnf
    subst hc4
    have hrb : r ≠ b := fun e => by rw [e, Hp.put_same] at hr; cases hr
    have hr0 : h1 r = none := by rwa [Hp.put_ne _ _ hrb] at hr
    have g0 : Gst h1 b r (fun p q => p < q ∧ q < arcs.length ∧ meets rows p q = true) l clk ((h1.put b (mapObj 7 l clk)).put r (.mapIter (some b) clk #[] clk)) #[] [] none 0 := by
      refine ⟨fun j o hj => ?_, x.of ?_, Hp.put_same _ _ _, Gone.start l, ⟨rfl, .inl ⟨rfl, rfl, rfl⟩⟩, fun _ e => by cases e⟩
      · rw [Hp.put_ne _ _ (fun e => by rw [e, hr0] at hj; cases hj)]
        exact Hp.le_put hb _ _ hj
      · exact Hp.put_ne _ _ (Ne.symm hrb)
    refine clash4 hrb hr0 (fun outs hn hs => Nat.le_trans (all_pairs arcs.length outs hn fun p hp => ?_) (Nat.le_trans (Nat.mul_le_mul hm hm) (by decide))) g0 _ _ _ rfl fun e2 h2 outs E ec l12 hnd hall fE he2 => ?_
    · obtain ⟨i, j, e, a, c, _⟩ := hs p hp
      exact ⟨i, j, e, by omega, c⟩
    have hol : outs.length ≤ 9216 := Nat.le_trans (all_pairs arcs.length outs hnd fun p hp => by
      obtain ⟨i, j, e, a, c, _⟩ := (hall p).1 hp
      exact ⟨i, j, e, by omega, c⟩) (Nat.mul_le_mul hm hm)
    have hself := updL_self [13] e2
    rw [he2] at hself
    rw [← hself]
    conv => whnf
    refine .pub 0 73 2 E outs.length ec _ rfl fun h3 l3 ro3 f3 => .done (.mk _ (sort26 E outs.length ec outs h3 ro3 (by omega)) ?_)
    rintro _ h4 ⟨ys, rfl, srt, ro4, same⟩
    have hys : ys = pairsR rows arcs.length := sorted_is srt hnd fun p => (hall p).trans pairs_mem.symm
    have hyl : ys.length = outs.length := srt.perm.length_eq
    conv => whnf
    refine .done ⟨fun j o hj => ?_, fun q => absurd he q, fun _ => ⟨E, ec, ?_, ?_, fun q hq => ?_⟩⟩
    · have hj1 := hle _ _ hj
      rw [same j fun q hq e => ?_]
      · exact l3 _ _ (l12 _ _ hj1)
      · have := fE q hq
        rw [← e, hj1] at this
        cases this
    · rw [hrows, ← hys, hyl]; rfl
    · rw [hrows, ← hys, hyl]; exact ro4
    · exact Hp.none_le hle (fE q hq)
  · obtain rfl := hb he
    conv => whnf
    refine br_dec (fun _ => ?_) (fun q => absurd he q)
    conv => whnf
    exact .done ⟨hle, fun _ => rfl, fun q => absurd q he⟩
end Go.Sx
