/- Layer 19: a net's functions. Conditions: none. -/
import Derived.Test.YthibgmkobcbhhaaGreatC1
import Derived.Test.YthibgmkobcbhhaaGreatIr19
namespace Go.Sx
open Go.Proofs
set_option maxRecDepth 100000
theorem mix14 : Tryz.prog.follows .mixedOrders = true := by kernel_rfl
def okRate (k : Int) : Bool := decide (1 ≤ k) && decide (k ≤ 64)
def okNode (N v : Int) : Bool := decide (0 ≤ v) && decide (v < N)
theorem rate28 (k : Int) (h : Hp) : Fn Tryz.prog 84 #[iv k] h fun v h' => v = .bool (okRate k) ∧ h' = h := by
  refine Fn.intro (args := [iv k]) mix14 Tryz.func84 rfl (by decide) Tryz.ntmps84 rfl (low84 rfl) rfl ?_
  conv => whnf
  refine br_dec (fun h1 => ?_) (fun h1 => ?_)
  · conv => whnf
    refine .done ⟨?_, rfl⟩
    simp [okRate, h1, oneVal]
  · conv => whnf
    refine .done ⟨?_, rfl⟩
    simp [okRate, h1, oneVal]
theorem node27 (N v : Int) (A : Option Addr) (m cap : Nat) (h : Hp) : Fn Tryz.prog 83 #[netV N A m cap, iv v] h fun r h' => r = .bool (okNode N v) ∧ h' = h := by
  refine Fn.intro (args := [netV N A m cap, iv v]) mix14 Tryz.func83 rfl (by decide) Tryz.ntmps83 rfl (low83 rfl) rfl ?_
  conv => whnf
  refine br_dec (fun h1 => ?_) (fun h1 => ?_)
  · conv => whnf
    refine .done ⟨?_, rfl⟩
    simp [okNode, h1, oneVal]
  · conv => whnf
    refine .done ⟨?_, rfl⟩
    simp [okNode, h1, oneVal]

def okArc (N : Int) (a : Arc) : Int :=
  if (!(okNode N a.src && okNode N a.dst)) = true then 100 else if (!(okRate a.give && okRate a.take)) = true then 101 else if a.start < 0 ∨ 256 < a.start then 88 else 0
def chkL (N : Int) : List Arc → Int
  | [] => 0
  | a :: l => if okArc N a ≠ 0 then okArc N a else chkL N l
def chk (N : Int) (l : List Arc) : Int := if N < 1 ∨ 32 < N then 100 else if 96 < l.length then 81 else chkL N l

theorem check20 (N : Int) (A : Option Addr) (n cap : Nat) (l : List Arc) (h : Hp) (ht : Tab h 5 A n (l.map Arc.cells)) (hn : n ≤ 9223372036854775806) :
    Fn Tryz.prog 66 #[netV N A n cap] h fun r h' => r = iv (chk N l) ∧ h' = h := by
  have hl : l.length = n := by simpa using ht.len
  refine Fn.intro (args := [netV N A n cap]) mix14 Tryz.func66 rfl (by decide) Tryz.ntmps66 rfl (low66 rfl) rfl ?_
  conv => whnf
  refine br_dec (fun h1 => ?_) (fun h1 => ?_)
  · conv => whnf
    refine .done ⟨?_, rfl⟩
    simp [chk, h1, oneVal, iv]
  conv => whnf
  refine br_dec (fun h2 => ?_) (fun h2 => ?_)
  · conv => whnf
    refine .done ⟨?_, rfl⟩
    simp [chk, h2, oneVal, iv]
  conv => whnf
  refine br_dec (fun h3 => ?_) (fun h3 => ?_)
  · conv => whnf
    refine .done ⟨?_, rfl⟩
    simp [chk, oneVal, iv]; omega
  conv => whnf
  refine .mk Nat [1, 3] (fun i => [.p 0 0, .v (iv i)]) (fun _ => [.own [.v (iv N), .v (.slice A n cap)] 24]) (fun i h' => h' = h ∧ i ≤ n ∧ chkL N (l.drop i) = chkL N l) (fun i => n - i) 0 (fun _ => rfl) ⟨rfl, Nat.zero_le _, rfl⟩ rfl rfl ?_
  rintro i e h' ⟨rfl, hi, hf⟩
  have hc : chk N l = chkL N (l.drop i) := by rw [hf]; simp [chk]; omega
  conv => whnf
  refine br_dec (fun h4 => ?_) (fun h4 => ?_)
  · have hi' : i < n := by omega
    have hd : l.drop i = l[i] :: l.drop (i + 1) := List.drop_eq_getElem_cons (by omega)
    rw [hd] at hc hf
    obtain ⟨g, hg⟩ := ht.ad (by omega)
    conv => whnf
    refine .mk g hg (by omega) (by omega) ?_
    conv => whnf
    refine .hp l[i].cells rfl (by rw [Int.toNat_natCast]; exact ht.row hg (map_get (by omega))) ?_
    conv => whnf
    refine .done (.mk _ (node27 _ _ _ _ _ _) ?_)
    rintro _ _ ⟨rfl, rfl⟩
    have k100 : okArc N l[i] ≠ 0 → chk N l = okArc N l[i] := fun hk => by rw [hc, chkL, if_pos hk]
    have k0 : okArc N l[i] = 0 → chkL N (l.drop (i + 1)) = chkL N l := fun hk => by rw [← hf, chkL, if_neg (by simpa using hk)]
    cases q1 : okNode N l[i].src
    · conv => whnf
      refine .done ⟨?_, rfl⟩
      rw [k100] <;> simp [okArc, q1]
      rfl
    conv => whnf
    refine .done (.mk _ (node27 _ _ _ _ _ _) ?_)
    rintro _ _ ⟨rfl, rfl⟩
    cases q2 : okNode N l[i].dst
    · conv => whnf
      refine .done ⟨?_, rfl⟩
      rw [k100] <;> simp [okArc, q2]
      rfl
    conv => whnf
    refine .done (.mk _ (rate28 _ _) ?_)
    rintro _ _ ⟨rfl, rfl⟩
    cases q3 : okRate l[i].give
    · conv => whnf
      refine .done ⟨?_, rfl⟩
      rw [k100] <;> simp [okArc, q1, q2, q3]
      rfl
    conv => whnf
    refine .done (.mk _ (rate28 _ _) ?_)
    rintro _ _ ⟨rfl, rfl⟩
    cases q4 : okRate l[i].take
    · conv => whnf
      refine .done ⟨?_, rfl⟩
      rw [k100] <;> simp [okArc, q1, q2, q3, q4]
      rfl
    conv => whnf
    refine br_dec (fun q5 => ?_) (fun q5 => ?_)
    · conv => whnf
      refine .done ⟨?_, rfl⟩
      rw [k100] <;> simp [okArc, q1, q2, q3, q4, q5]
      rfl
    conv => whnf
    refine br_dec (fun q6 => ?_) (fun q6 => ?_)
    · conv => whnf
      refine .done ⟨?_, rfl⟩
      rw [k100] <;> simp [okArc, q1, q2, q3, q4, q6]
      rfl
    conv => whnf
    refine .ok (by omega) (by omega) ?_
    conv => whnf
    refine ⟨i + 1, rfl, rfl, ⟨rfl, hi', ?_⟩, by omega⟩
    refine k0 ?_
    simp [okArc, q1, q2, q3, q4]
    omega
  · conv => whnf
    refine .done ⟨?_, rfl⟩
    rw [hc, List.drop_eq_nil_of_le (by omega)]
    rfl

theorem okNode_iff (N v : Int) : okNode N v = true ↔ 0 ≤ v ∧ v < N := by simp [okNode]
theorem okRate_iff (v : Int) : okRate v = true ↔ 1 ≤ v ∧ v ≤ 64 := by simp [okRate]
theorem okArc_100 {N : Int} {a : Arc} (hk : ¬ (okNode N a.src = true ∧ okNode N a.dst = true)) : okArc N a = 100 := by
  cases e1 : okNode N a.src <;> cases e2 : okNode N a.dst <;> simp_all [okArc]
theorem okArc_101 {N : Int} {a : Arc} (h1 : okNode N a.src = true) (h2 : okNode N a.dst = true) (hk : ¬ (okRate a.give = true ∧ okRate a.take = true)) : okArc N a = 101 := by
  cases e1 : okRate a.give <;> cases e2 : okRate a.take <;> simp_all [okArc]
theorem okArc_88 {N : Int} {a : Arc} (h1 : okNode N a.src = true) (h2 : okNode N a.dst = true) (h3 : okRate a.give = true) (h4 : okRate a.take = true) : okArc N a = if a.start < 0 ∨ 256 < a.start then 88 else 0 := by
  simp [okArc, h1, h2, h3, h4]
theorem check19 (N : Int) (A : Option Addr) (n cap : Nat) (l : List Arc) (h : Hp) (ht : Tab h 5 A n (l.map Arc.cells)) (hn : n ≤ 9223372036854775806) :
    Fn Tryz.prog 95 #[netV N A n cap] h fun r h' => r = iv (chk N l) ∧ h' = h := by
  have hl : l.length = n := by simpa using ht.len
  refine Fn.intro (args := [netV N A n cap]) mix14 Tryz.func95 rfl (by decide) Tryz.ntmps95 rfl (low95 rfl) rfl ?_
  conv => whnf
  refine br_dec (fun h1 => ?_) (fun h1 => ?_)
  · conv => whnf
    refine .done ⟨?_, rfl⟩
    simp [chk, h1, oneVal, iv]
  conv => whnf
  refine br_dec (fun h2 => ?_) (fun h2 => ?_)
  · conv => whnf
    refine .done ⟨?_, rfl⟩
    simp [chk, h2, oneVal, iv]
  conv => whnf
  refine br_dec (fun h3 => ?_) (fun h3 => ?_)
  · conv => whnf
    refine .done ⟨?_, rfl⟩
    simp [chk, oneVal, iv]; omega
  conv => whnf
  refine .mk Nat [1, 18, 19, 20] (fun i => [.p 0 0, .v (.slice A n cap), .v (iv n), .v (iv i)]) (fun _ => [.own [.v (iv N), .v (.slice A n cap)] 24]) (fun i h' => h' = h ∧ i ≤ n ∧ chkL N (l.drop i) = chkL N l) (fun i => n - i) 0 (fun _ => rfl) ⟨rfl, Nat.zero_le _, rfl⟩ rfl rfl ?_
  rintro i e h' ⟨rfl, hi, hf⟩
  have hc : chk N l = chkL N (l.drop i) := by rw [hf]; simp [chk]; omega
  conv => whnf
  refine br_dec (fun h4 => ?_) (fun h4 => ?_)
  · have hi' : i < n := by omega
    have hd : l.drop i = l[i] :: l.drop (i + 1) := List.drop_eq_getElem_cons (by omega)
    rw [hd] at hc hf
    obtain ⟨g, hg⟩ := ht.ad (by omega)
    have k100 : okArc N l[i] ≠ 0 → chk N l = okArc N l[i] := fun hk => by rw [hc, chkL, if_pos hk]
    have k0 : okArc N l[i] = 0 → chkL N (l.drop (i + 1)) = chkL N l := fun hk => by rw [← hf, chkL, if_neg (by simpa using hk)]
    have a100 := @okArc_100 N l[i]
    have a101 := @okArc_101 N l[i]
    have a88 := @okArc_88 N l[i]
    simp only [okNode_iff, okRate_iff] at a100 a101 a88
    conv => whnf
    refine .mk g hg (by omega) (by omega) ?_
    conv => whnf
    refine .hp l[i].cells rfl (by rw [Int.toNat_natCast]; exact ht.row hg (map_get (by omega))) ?_
    conv => whnf
    refine br_dec (fun q1 => ?_) (fun q1 => ?_)
    · conv => whnf
      refine .done ⟨?_, rfl⟩
      rw [k100] <;> rw [a100 (by omega)] <;> first | rfl | decide
    conv => whnf
    refine br_dec (fun q2 => ?_) (fun q2 => ?_)
    · conv => whnf
      refine .done ⟨?_, rfl⟩
      rw [k100] <;> rw [a100 (by omega)] <;> first | rfl | decide
    conv => whnf
    refine br_dec (fun q3 => ?_) (fun q3 => ?_)
    · conv => whnf
      refine .done ⟨?_, rfl⟩
      rw [k100] <;> rw [a101 (by omega) (by omega) (by omega)] <;> first | rfl | decide
    conv => whnf
    refine br_dec (fun q4 => ?_) (fun q4 => ?_)
    · conv => whnf
      refine .done ⟨?_, rfl⟩
      rw [k100] <;> rw [a101 (by omega) (by omega) (by omega)] <;> first | rfl | decide
    have a88 := a88 (by omega) (by omega) (by omega) (by omega)
    conv => whnf
    refine br_dec (fun q5 => ?_) (fun q5 => ?_)
    · conv => whnf
      refine .done ⟨?_, rfl⟩
      rw [if_pos (.inl q5)] at a88
      rw [k100] <;> rw [a88] <;> first | rfl | decide
    conv => whnf
    refine br_dec (fun q6 => ?_) (fun q6 => ?_)
    · conv => whnf
      refine .done ⟨?_, rfl⟩
      rw [if_pos (.inr q6)] at a88
      rw [k100] <;> rw [a88] <;> first | rfl | decide
    rw [if_neg (by omega)] at a88
    conv => whnf
    refine .ok (by omega) (by omega) ?_
    conv => whnf
    exact ⟨i + 1, rfl, rfl, ⟨rfl, hi', k0 a88⟩, by omega⟩
  · conv => whnf
    refine .done ⟨?_, rfl⟩
    rw [hc, List.drop_eq_nil_of_le (by omega)]
    rfl
theorem ones_rows {rows : List (List Value)} (hw : ∀ r ∈ rows, ∀ u ∈ r, u.oneCell' = true) : ∀ u ∈ rows.flatten, u.oneCell' = true := by
  intro u hu
  obtain ⟨r, hr, hu⟩ := List.mem_flatten.1 hu
  exact hw r hr u hu
theorem blks_one (l : List Blk) : ∀ u ∈ (l.map Blk.cells).flatten, u.oneCell' = true := ones_rows fun r hr u hu => by
  obtain ⟨a, _, rfl⟩ := List.mem_map.1 hr
  simp only [Blk.cells, List.mem_cons, List.not_mem_nil, or_false] at hu
  rcases hu with rfl | rfl | rfl <;> rfl
theorem arcs_one (l : List Arc) : ∀ u ∈ (l.map Arc.cells).flatten, u.oneCell' = true := ones_rows fun r hr u hu => by
  obtain ⟨a, _, rfl⟩ := List.mem_map.1 hr
  simp only [Arc.cells, List.mem_cons, List.not_mem_nil, or_false] at hu
  rcases hu with rfl | rfl | rfl | rfl | rfl <;> rfl

theorem sameNet14 (N M : Int) (A B : Option Addr) (n m cap cap' : Nat) (l k : List Arc) (h : Hp) (ht : Tab h 5 A n (l.map Arc.cells)) (hu : Tab h 5 B m (k.map Arc.cells)) (hn : n ≤ 9223372036854775806) :
    Fn Tryz.prog 34 #[netV N A n cap, netV M B m cap'] h fun r h' => r = .bool (decide (N = M ∧ l = k)) ∧ h' = h := by
  have hl : l.length = n := by simpa using ht.len
  have hk : k.length = m := by simpa using hu.len
  refine Fn.intro (args := [netV N A n cap, netV M B m cap']) mix14 Tryz.func34 rfl (by decide) Tryz.ntmps34 rfl (low34 rfl) rfl ?_
  conv => whnf
  refine br_dec (fun h1 => ?_) (fun h1 => ?_)
  · conv => whnf
    refine .done ⟨?_, rfl⟩
    rw [decide_eq_false (fun e => h1 e.1)]
    rfl
  have h1 : N = M := Decidable.not_not.1 h1
  conv => whnf
  refine br_dec (fun h2 => ?_) (fun h2 => ?_)
  · conv => whnf
    refine .done ⟨?_, rfl⟩
    rw [decide_eq_false (fun e => h2 (by rw [← hl, ← hk, e.2]))]
    rfl
  have h2 : n = m := by omega
  conv => whnf
  refine .mk Nat [2, 3, 5] (fun i => [.p 0 0, .p 1 0, .v (iv i)]) (fun _ => [.own [.v (iv N), .v (.slice A n cap)] 24, .own [.v (iv M), .v (.slice B m cap')] 24]) (fun i h' => h' = h ∧ i ≤ n ∧ l.take i = k.take i) (fun i => n - i) 0 (fun _ => rfl) ⟨rfl, Nat.zero_le _, rfl⟩ rfl rfl ?_
  rintro i e h' ⟨rfl, hi, hf⟩
  conv => whnf
  refine br_dec (fun h4 => ?_) (fun h4 => ?_)
  · have hi' : i < n := by omega
    obtain ⟨g, hg⟩ := ht.ad (by omega)
    obtain ⟨g', hg'⟩ := hu.ad (by omega)
    conv => whnf
    refine .mk g hg (by omega) (by omega) ?_
    conv => whnf
    refine .hp l[i].cells rfl (by rw [Int.toNat_natCast]; exact ht.row hg (map_get (by omega))) ?_
    conv => whnf
    refine .mk g' hg' (by omega) (by omega) ?_
    conv => whnf
    refine .hp k[i].cells rfl (by rw [Int.toNat_natCast]; exact hu.row hg' (map_get (by omega))) ?_
    conv => whnf
    refine br_intro (fun hb => ?_) (fun hb => ?_)
    · conv => whnf
      refine .done ⟨?_, rfl⟩
      rw [decide_eq_false]
      · rfl
      · rintro ⟨_, e⟩
        subst e
        simp [flip] at hb
    · conv => whnf
      refine .ok (by omega) (by omega) ?_
      conv => whnf
      refine ⟨i + 1, rfl, rfl, ⟨rfl, hi', ?_⟩, by omega⟩
      rw [← List.take_append_getElem (by omega), ← List.take_append_getElem (by omega), hf]
      have : l[i] = k[i] := by
        simp [flip] at hb
        obtain ⟨h1, h2, h3, h4, h5⟩ := hb
        cases e1 : l[i]
        cases e2 : k[i]
        simp_all
      rw [this]
  · conv => whnf
    refine .done ⟨?_, rfl⟩
    rw [List.take_of_length_le (by omega), List.take_of_length_le (by omega)] at hf
    rw [decide_eq_true ⟨h1, hf⟩]
    rfl
theorem ok1_no {N : Int} {b : Blk} (h : ¬ (0 ≤ b.node ∧ b.node < N ∧ 0 ≤ b.fired ∧ b.fired ≤ 4096)) : ok1 N b = false := by
  cases e : ok1 N b
  · rfl
  · exact absurd (ok1_iff.1 e) h
theorem arcOf_lt {arcs : List Arc} {b : Blk} (h0 : 0 ≤ b.arc) (h1 : b.arc < arcs.length) : arcOf arcs b = some (arcs[b.arc.toNat]'(by omega)) := by
  rw [arcOf, if_pos h0, List.getElem?_eq_getElem (by omega)]
theorem arcOf_out {arcs : List Arc} {b : Blk} (h : b.arc < 0 ∨ (arcs.length : Int) ≤ b.arc) : arcOf arcs b = none := by
  unfold arcOf
  split
  · exact List.getElem?_eq_none (by omega)
  · rfl
theorem chkL_zero {N : Int} : ∀ {l : List Arc}, chkL N l = 0 → ∀ a ∈ l, okArc N a = 0
  | [], _, a, h => by cases h
  | b :: l, h, a, ha => by
    simp only [chkL] at h
    split at h
    · rename_i h1; exact absurd h h1
    · rename_i h1
      rcases List.mem_cons.1 ha with rfl | ha
      · exact Decidable.not_not.1 h1
      · exact chkL_zero h a ha
theorem okArc_zero {N : Int} {a : Arc} (h : okArc N a = 0) : 0 ≤ a.src ∧ a.src < N ∧ 0 ≤ a.dst ∧ a.dst < N ∧ 1 ≤ a.give ∧ a.give ≤ 64 ∧ 1 ≤ a.take ∧ a.take ≤ 64 ∧ 0 ≤ a.start ∧ a.start ≤ 256 := by
  cases e1 : okNode N a.src <;> cases e2 : okNode N a.dst <;> cases e3 : okRate a.give <;> cases e4 : okRate a.take <;> simp [okArc, e1, e2, e3, e4] at h
  have h1 := (okNode_iff _ _).1 e1
  have h2 := (okNode_iff _ _).1 e2
  have h3 := (okRate_iff _).1 e3
  have h4 := (okRate_iff _).1 e4
  omega
theorem chk_zero {N : Int} {l : List Arc} (h : chk N l = 0) : 1 ≤ N ∧ N ≤ 32 ∧ l.length ≤ 96 ∧ ∀ a ∈ l, okArc N a = 0 := by
  unfold chk at h
  split at h
  · cases h
  · split at h
    · cases h
    · rename_i h1 h2
      exact ⟨by omega, by omega, by omega, chkL_zero h⟩
/-- what is answered of any blocks of any net -/
def conf (N : Int) (arcs : List Arc) (l : List Blk) : Int := if chk N arcs = 0 then conf0 N arcs l else chk N arcs

theorem Hp.put_put (h : Hp) (b : Nat) (o o' : Obj) : (h.put b o).put b o' = h.put b o' := by
  funext j
  simp only [Hp.put]
  split <;> rfl
theorem ok1_none {N : Int} {arcs : List Arc} {l : List Blk} {b : Blk} (hb : b ∈ l) (h : ok1 N b = false) : ¬ formed N arcs l := fun hf => by
  rw [hf.2.1 b hb] at h; cases h
theorem take_succ' {α : Type} {l : List α} {i : Nat} (hi : i < l.length) : l.take (i + 1) = l.take i ++ [l[i]] := by
  rw [List.take_append_getElem]
theorem Tab.lit {h : Hp} {b ty size n : Nat} {cs : List Value} {rows : List (List Value)} (hb : h b = some (.cells cs.toArray ty (0, 0))) (hr : rows.flatten = cs) (hw : ∀ r ∈ rows, r.length = size) (hn : rows.length = n) : Tab h size (some ⟨b, 0, none⟩) n rows := by
  refine ⟨hn, hw, fun _ => ⟨_, rfl⟩, fun g hg i r hi j v hv => ?_⟩
  injection hg with hg
  subst hg
  have := flat_at _ hw i j r v hi hv
  rw [add_lit, Nat.zero_add, Hp.cell?]
  simp only [hb, Option.isSome_none, Bool.false_eq_true, if_false]
  rw [← hr]
  simpa using this
theorem Hp.le.trans' {a b c : Hp} (x : a.le b) (y : b.le c) : a.le c := Hp.le_trans x y
theorem put_at {h : Hp} {b : Nat} {o : Obj} : (h.put b o) b = some o := Hp.put_same _ _ _
theorem Hp.le_put_of {h h' : Hp} {b : Nat} {o : Obj} (x : h.le h') (hb : h b = none) : h.le (h'.put b o) := fun j o' e => by
  rw [Hp.put_ne _ _ (fun q => by rw [q, hb] at e; cases e)]
  exact x j o' e
theorem over_one {α : Type} : ∀ (l : List α) (off : Nat) (v : α), off < l.length → over l off [v] = some (l.set off v)
  | [], off, v, h => by simp at h
  | x :: l, 0, v, _ => by cases l <;> simp [over]
  | x :: l, off + 1, v, h => by simp only [over, over_one l off v (by simpa using h), List.set_cons_succ]
theorem flat_set {size : Nat} : ∀ (rows : List (List Value)), (∀ r ∈ rows, r.length = size) → ∀ (i j : Nat) (r : List Value) (v : Value), rows[i]? = some r → j < size → rows.flatten.set (i * size + j) v = (rows.set i (r.set j v)).flatten
  | [], _, i, j, r, v, h, _ => by simp at h
  | q :: rows, hw, i, j, r, v, h, hj => by
    have hq := hw q (by simp)
    cases i with
    | zero =>
      injection h with h; subst h
      rw [List.flatten_cons, Nat.zero_mul, Nat.zero_add, List.set_append_left _ _ (by omega), List.set_cons_zero, List.flatten_cons]
    | succ i =>
      rw [List.flatten_cons, List.set_append_right _ _ (by rw [Nat.succ_mul]; omega), List.set_cons_succ, List.flatten_cons]
      have := flat_set rows (fun r hr => hw r (by simp [hr])) i j r v (by simpa using h) hj
      rw [← this, hq]
      congr 2
      rw [Nat.succ_mul]; omega
/-- one cell of a row in the partial heap written -/
theorem RowAt.write {h : Hp} {ety size n cap off : Nat} {A : Option Addr} {xs : List Value} (x : RowAt h ety size A n cap xs) (ho : off < n * size) (v : Value) :
    ∃ g cs cs', A = some ⟨g, 0, none⟩ ∧ h g = some (.cells cs.toArray ety (0, 0)) ∧ over cs off [v] = some cs' ∧ RowAt (h.put g (.cells cs'.toArray ety (0, 0))) ety size A n cap (xs.set off v) := by
  obtain ⟨h1, h2⟩ := x
  rcases h2 with ⟨_, h2, _⟩ | ⟨g, cur, q1, q2, q3, q4, q5, q6⟩
  · subst h2; omega
  · have hle : n * size ≤ cap * size := Nat.mul_le_mul_right size q3
    refine ⟨g, cur.toList, cur.toList.set off v, q1, by simpa using q2, over_one _ _ _ (by simp; omega), by simpa using h1, .inr ⟨g, (cur.toList.set off v).toArray, q1, Hp.put_same _ _ _, q3, q4, by simpa using q5, ?_⟩⟩
    rw [← q6]
    simp only [List.take_set]
end Go.Sx
