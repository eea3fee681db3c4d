/- Layer 19: regions that share; their cells; what lies near an arc; the facts of a list. Conditions: none. -/
import Derived.Test.YthibgmkobcbhhaaGreatM19C
namespace Go.Sx
open Go.Proofs Go.Sort
set_option maxRecDepth 100000
def shareR (x y : Pr) : Bool := decide (max x.1 y.1 < min (x.1 + x.2) (y.1 + y.2))
/-- numbers that can be added up -/
def Sm (x : Pr) : Prop := -1000000000000 ≤ x.1 ∧ x.1 ≤ 1000000000000 ∧ -1000000000000 ≤ x.2 ∧ x.2 ≤ 1000000000000
theorem share41 (x y : Pr) (h : Hp) (hx : Sm x) (hy : Sm y) : Fn Tryz.prog 23 #[.agg #[iv x.1, iv x.2], .agg #[iv y.1, iv y.2]] h fun v h' => v = .bool (shareR x y) ∧ h' = h := by
  obtain ⟨a1, a2, a3, a4⟩ := hx
  obtain ⟨b1, b2, b3, b4⟩ := hy
  refine Fn.intro (args := [.agg #[iv x.1, iv x.2], .agg #[iv y.1, iv y.2]]) mix14 Tryz.func23 rfl (by decide) Tryz.ntmps23 rfl (low23 rfl) rfl ?_
  conv => whnf
  refine .ok (by omega) (by omega) ?_
  conv => whnf
  refine .ok (by omega) (by omega) ?_
  conv => whnf
  exact .done ⟨rfl, rfl⟩
def totalR (l : List Pr) : Int := l.foldl (fun n x => max n (x.1 + x.2)) 0
theorem totalR_snoc (l : List Pr) (x : Pr) : totalR (l ++ [x]) = max (totalR l) (x.1 + x.2) := by simp [totalR]
theorem total42 (A : Option Addr) (n cap : Nat) (l : List Pr) (h : Hp) (ht : Tab h 2 A n (l.map pc)) (hs : ∀ x ∈ l, Sm x) (hn : n ≤ 1000000000000000000) :
    Fn Tryz.prog 24 #[.slice A n cap] h fun v h' => v = iv (totalR l) ∧ h' = h := by
  have hl : l.length = n := by simpa using ht.len
  refine Fn.intro (args := [.slice A n cap]) mix14 Tryz.func24 rfl (by decide) Tryz.ntmps24 rfl (low24 rfl) rfl ?_
  conv => whnf
  refine .mk Nat [3, 6, 7, 8] (fun k => [.v (iv (totalR (l.take k))), .v (.slice A n cap), .v (iv n), .v (iv k)]) (fun _ => []) (fun k h' => h' = h ∧ k ≤ n) (fun k => n - k) 0 (fun _ => rfl) ⟨rfl, Nat.zero_le _⟩ rfl rfl ?_
  rintro k e h' ⟨rfl, hk⟩
  conv => whnf
  refine br_dec (fun u => ?_) (fun u => ?_)
  · have hk' : k < l.length := by omega
    obtain ⟨g, hg⟩ := ht.ad (by omega)
    obtain ⟨x, hx⟩ : ∃ x, x = l[k] := ⟨_, rfl⟩
    obtain ⟨a1, a2, a3, a4⟩ := hs x (by rw [hx]; exact List.getElem_mem hk')
    have hget : (l.map pc)[k]? = some (pc x) := by rw [List.getElem?_map, List.getElem?_eq_getElem hk', hx]; rfl
    conv => whnf
    refine .mk g hg (by omega) (by omega) ?_
    conv => whnf
    refine .hp (pc x) rfl (by rw [Int.toNat_natCast]; exact ht.row hg hget) ?_
    conv => whnf
    refine .ok (by omega) (by omega) ?_
    conv => whnf
    refine .ok (by omega) (by omega) ?_
    conv => whnf
    refine ⟨k + 1, ?_, rfl, ⟨rfl, by omega⟩, by omega⟩
    have e1 : l.take (k + 1) = l.take k ++ [x] := by rw [List.take_add_one, List.getElem?_eq_getElem hk', hx]; rfl
    rw [e1, totalR_snoc]
    rfl
  · have : k = n := by omega
    subst this
    conv => whnf
    refine .done ⟨?_, rfl⟩
    rw [List.take_of_length_le (by omega)]; rfl
def nearR (ps : List Pr) (arc : Int) : List Int := ps.filterMap fun p => if arc = p.1 then some p.2 else if arc = p.2 then some p.1 else none
theorem nearR_snoc (l : List Pr) (x : Pr) (arc : Int) : nearR (l ++ [x]) arc = nearR l arc ++ nearR [x] arc := by simp [nearR, List.filterMap_append]
theorem near38 (E F : Option Addr) (n c m d : Nat) (l : List Pr) (arc : Int) (h : Hp) (ht : Tab h 2 E n (l.map pc)) (hn : n ≤ 1000000) :
    Fn Tryz.prog 20 #[.agg #[.slice E n c, .slice F m d], iv arc] h fun v h' => h.le h' ∧ ∃ B cB, v = .slice B (nearR l arc).length cB ∧ Tab h' 1 B (nearR l arc).length ((nearR l arc).map fun z => [iv z]) := by
  have hl : l.length = n := by simpa using ht.len
  refine Fn.intro (args := [.agg #[.slice E n c, .slice F m d], iv arc]) mix14 Tryz.func20 rfl (by decide) Tryz.ntmps20 rfl (low20 rfl) rfl ?_
  conv => whnf
  refine .mkS [] (Nat × Option Addr × Nat) [1, 5, 9, 10, 11] (fun (k, B, cB) => [.v (iv arc), .v (.slice B (nearR (l.take k) arc).length cB), .v (.slice E n c), .v (iv n), .v (iv k)]) (fun _ => [])
    (fun (k, B, cB) h' => h.le h' ∧ k ≤ n ∧ RowAt h' 3 1 B (nearR (l.take k) arc).length cB ((nearR (l.take k) arc).map iv) ∧ ∀ g, B = some g → h g.block = none) (fun (k, _, _) => n - k) (0, none, 0) (fun (_, _, _) => rfl) ⟨Hp.le_refl _, Nat.zero_le _, ⟨rfl, .inl ⟨rfl, rfl, rfl⟩⟩, fun _ e => by cases e⟩ rfl rfl rfl ?_
  rintro ⟨k, B, cB⟩ e h' ⟨hle, hk, row, fB⟩
  have hX := delA_none hle fB
  have hlen : (nearR (l.take k) arc).length ≤ k := by
    unfold nearR
    exact Nat.le_trans (List.length_filterMap_le _ _) (by simp; omega)
  refine .abs 3 1 B _ cB _ row (.done ?_)
  conv => whnf
  refine br_dec (fun u => ?_) (fun u => ?_)
  · have hk' : k < l.length := by omega
    obtain ⟨g, hg⟩ := ht.ad (by omega)
    obtain ⟨x, hx⟩ : ∃ x, x = l[k] := ⟨_, rfl⟩
    have hget : (l.map pc)[k]? = some (pc x) := by rw [List.getElem?_map, List.getElem?_eq_getElem hk', hx]; rfl
    have e1 : l.take (k + 1) = l.take k ++ [x] := by rw [List.take_add_one, List.getElem?_eq_getElem hk', hx]; rfl
    have e2 := nearR_snoc (l.take k) x arc
    rw [← e1] at e2
    have fin : ∀ {B2 : Option Addr} {c2 : Nat} {z : Int} {h4 : Hp}, nearR [x] arc = [z] → (delA h' B).le h4 → RowAt h4 3 1 B2 ((nearR (l.take k) arc).length + 1) c2 ((nearR (l.take k) arc).map iv ++ [iv z]) → (∀ g, B2 = some g → delA h' B g.block = none) →
        h.le h4 ∧ k + 1 ≤ n ∧ RowAt h4 3 1 B2 (nearR (l.take (k + 1)) arc).length c2 ((nearR (l.take (k + 1)) arc).map iv) ∧ ∀ g, B2 = some g → h g.block = none := fun {B2 c2 z h4} hz l4 ro f4 => by
      refine ⟨Hp.le_trans hX l4, by omega, ?_, fun g hg => Hp.none_le hX (f4 g hg)⟩
      rw [e2, hz, List.length_append, List.map_append]
      exact ro
    conv => whnf
    refine .mk g hg (by omega) (by omega) ?_
    conv => whnf
    refine .hp (pc x) rfl (by rw [Int.toNat_natCast]; exact (ht.mono hX).row hg hget) ?_
    conv => whnf
    refine br_dec (fun u1 => ?_) (fun u1 => ?_)
    · have hz : nearR [x] arc = [x.2] := by simp [nearR, u1]
      conv => whnf
      refine .done (.old 0 _ [iv x.2] rfl rfl (by intro u hu; simp at hu; subst hu; rfl) (by simp [maxLen]; omega) (by omega) fun B2 c2 _ => ?_)
      conv => whnf
      refine .ok (by omega) (by omega) ?_
      conv => whnf
      refine .pub 0 3 1 B2 ((nearR (l.take k) arc).length + 1) c2 _ rfl fun h4 l4 ro4 f4 => .done ⟨(k + 1, B2, c2), ?_, rfl, fin hz l4 ro4 f4, by show n - (k + 1) < n - k; omega⟩
      show _ = [SV.v (iv arc), SV.v (.slice B2 (nearR (l.take (k + 1)) arc).length c2), _, _, _]
      rw [e2, hz, List.length_append]; rfl
    · conv => whnf
      refine br_dec (fun u2 => ?_) (fun u2 => ?_)
      · have hz : nearR [x] arc = [x.1] := by
          simp only [nearR, List.filterMap_cons, List.filterMap_nil]
          rw [if_neg u1, if_pos u2]
        conv => whnf
        refine .done (.old 0 _ [iv x.1] rfl rfl (by intro u hu; simp at hu; subst hu; rfl) (by simp [maxLen]; omega) (by omega) fun B2 c2 _ => ?_)
        conv => whnf
        refine .ok (by omega) (by omega) ?_
        conv => whnf
        refine .pub 0 3 1 B2 ((nearR (l.take k) arc).length + 1) c2 _ rfl fun h4 l4 ro4 f4 => .done ⟨(k + 1, B2, c2), ?_, rfl, fin hz l4 ro4 f4, by show n - (k + 1) < n - k; omega⟩
        show _ = [SV.v (iv arc), SV.v (.slice B2 (nearR (l.take (k + 1)) arc).length c2), _, _, _]
        rw [e2, hz, List.length_append]; rfl
      · have hz : nearR [x] arc = [] := by
          simp only [nearR, List.filterMap_cons, List.filterMap_nil]
          rw [if_neg u1, if_neg u2]
        rw [hz, List.append_nil] at e2
        conv => whnf
        refine .ok (by omega) (by omega) ?_
        conv => whnf
        refine .pub 0 3 1 B _ cB _ rfl fun h4 l4 ro4 f4 => .done ⟨(k + 1, B, cB), ?_, rfl, ?_, by show n - (k + 1) < n - k; omega⟩
        · show _ = [SV.v (iv arc), SV.v (.slice B (nearR (l.take (k + 1)) arc).length cB), _, _, _]
          rw [e2]; rfl
        · refine ⟨Hp.le_trans hX l4, by show k + 1 ≤ n; omega, ?_, fun g hg => Hp.none_le hX (f4 g hg)⟩
          show RowAt h4 3 1 B (nearR (l.take (k + 1)) arc).length cB _
          rw [e2]; exact ro4
  · have : k = n := by omega
    subst this
    have e0 : l.take k = l := List.take_of_length_le (by omega)
    conv => whnf
    refine .pub 0 3 1 B _ cB _ rfl fun h4 l4 ro4 f4 => .done ⟨Hp.le_trans hX l4, B, cB, ?_, ?_⟩
    · show Value.slice B (nearR (l.take k) arc).length cB = _
      rw [e0]
    · have := ro4.one
      rw [e0] at this
      exact this
def lookE (N : Int) (arcs : List Arc) (zs : List Int) : Int := if (along N arcs zs).1 ≠ 0 then (along N arcs zs).1 else if homeOf N arcs zs = true then 0 else 181
def LookOk (h : Hp) (N : Int) (arcs : List Arc) (zs : List Int) (v : Value) (h' : Hp) : Prop :=
  h.le h' ∧ (lookE N arcs zs ≠ 0 → v = .tuple #[.agg #[.slice none 0 0, .slice none 0 0], iv (lookE N arcs zs)]) ∧
    (lookE N arcs zs = 0 → ∃ E c F d, v = .tuple #[.agg #[.slice E (pairsR (along N arcs zs).2 arcs.length).length c, .slice F arcs.length d], iv 0] ∧ Tab h' 2 E (pairsR (along N arcs zs).2 arcs.length).length ((pairsR (along N arcs zs).2 arcs.length).map pc) ∧
      Tab h' 1 F arcs.length ((maxes (along N arcs zs).2).map fun z => [iv z]))
theorem RowAt.tab2 {h : Hp} {ety n cap : Nat} {A : Option Addr} {xs : List Pr} (r : RowAt h ety 2 A n cap (xs.map pc).flatten) : Tab h 2 A n (xs.map pc) :=
  r.tab (fun r hr => by obtain ⟨x, _, rfl⟩ := List.mem_map.1 hr; rfl) (by decide)
theorem look35 (N : Int) (n cap : Nat) (arcs : List Arc) (A D : Option Addr) (r cap2 : Nat) (zs : List Int) (h : Hp) (ht : Tab h 5 A n (arcs.map Arc.cells)) (hn : n * 40 ≤ 140737488355328) (hz : Tab h 1 D r (zs.map fun z => [iv z])) :
    Fn Tryz.prog 16 #[netV N A n cap, .slice D r cap2] h fun v h' => LookOk h N arcs zs v h' := by
  refine Fn.intro (args := [netV N A n cap, .slice D r cap2]) mix14 Tryz.func16 rfl (by decide) Tryz.ntmps16 rfl (low16 rfl) rfl ?_
  conv => whnf
  refine .done (.mk _ (clash11 N n cap arcs A D r cap2 zs h ht hn hz) ?_)
  rintro v h1 ⟨l1, hb, hg⟩
  by_cases he : (along N arcs zs).1 = 0
  · obtain ⟨E, c, rfl, ro1, _⟩ := hg he
    conv => whnf
    refine .done (.mk _ (home22 N n cap arcs A D r cap2 zs h1 (ht.mono l1) hn (hz.mono l1)) ?_)
    rintro v h2 ⟨rfl, l2⟩
    have hE : lookE N arcs zs = if homeOf N arcs zs = true then 0 else 181 := by unfold lookE; rw [if_neg (fun q => q he)]
    cases hh : homeOf N arcs zs with
    | true =>
      rw [hh, if_pos rfl] at hE
      conv => whnf
      refine .done (.mk _ (most19 N n cap arcs A D r cap2 zs h2 (ht.mono (Hp.le_trans l1 l2)) hn (hz.mono (Hp.le_trans l1 l2))) ?_)
      rintro v h3 ⟨l3, _, hg3⟩
      obtain ⟨v, X, rfl, p1, q2, _⟩ := hg3 he
      obtain ⟨gm, cm, rfl, p3⟩ := p1.2 (along_ne he)
      conv => whnf
      exact .done ⟨Hp.le_trans l1 (Hp.le_trans l2 l3), fun q => absurd hE q, fun _ => ⟨E, c, some gm, cm, rfl, (ro1.tab2).mono (Hp.le_trans l2 l3), (p3.mono q2).one⟩⟩
    | false =>
      rw [hh] at hE
      have hE : lookE N arcs zs = 181 := hE
      conv => whnf
      refine .done ⟨Hp.le_trans l1 l2, fun _ => ?_, fun q => absurd (hE.symm.trans q) (by decide)⟩
      rw [hE]; rfl
  · obtain rfl := hb he
    have hE : lookE N arcs zs = (along N arcs zs).1 := by unfold lookE; rw [if_pos he]
    conv => whnf
    refine br_dec (fun _ => ?_) (fun q => absurd he q)
    conv => whnf
    refine .done ⟨l1, fun _ => ?_, fun q => absurd (hE.symm.trans q) he⟩
    rw [hE]; rfl
end Go.Sx
namespace Go.Sx
open Go.Proofs Go.Sort
set_option maxRecDepth 100000
def cmpI (x y : Int) : Int := if x < y then -1 else if y < x then 1 else 0
theorem nan52 (x : Int) (h : Hp) : Fn Tryz.prog 40 #[iv x] h fun v h' => v = .bool false ∧ h' = h := by
  refine Fn.intro (args := [iv x]) mix14 Tryz.func40 rfl (by decide) Tryz.ntmps40 rfl (low40 rfl) rfl ?_
  conv => whnf
  refine .done ⟨?_, rfl⟩
  show Value.bool (decide (x ≠ x)) = _
  simp
theorem compare29 (x y : Int) (h : Hp) : Fn Tryz.prog 19 #[iv x, iv y] h fun v h' => v = iv (cmpI x y) ∧ h' = h := by
  refine Fn.intro (args := [iv x, iv y]) mix14 Tryz.func19 rfl (by decide) Tryz.ntmps19 rfl (low19 rfl) rfl ?_
  conv => whnf
  refine .done (.mk _ (nan52 x h) ?_)
  rintro _ _ ⟨rfl, rfl⟩
  conv => whnf
  refine .done (.mk _ (nan52 y _) ?_)
  rintro _ _ ⟨rfl, rfl⟩
  conv => whnf
  refine br_dec (fun u => ?_) (fun u => ?_)
  · conv => whnf
    refine .done ⟨?_, rfl⟩
    unfold cmpI; rw [if_pos u]; rfl
  · conv => whnf
    refine br_dec (fun u2 => ?_) (fun u2 => ?_)
    · conv => whnf
      refine .done ⟨?_, rfl⟩
      unfold cmpI; rw [if_neg u, if_pos u2]; rfl
    · conv => whnf
      refine .done ⟨?_, rfl⟩
      unfold cmpI; rw [if_neg u, if_neg u2]; rfl
/-- the facts, in a block -/
structure Facts (h : Hp) (q : Nat) (X F : Option Addr) (k c m d : Nat) (pk : List Int) : Prop where
  cell : h q = some (.cells [.slice X k c, .slice F m d].toArray 50 (0, 0))
  tab : Tab h 1 F m (pk.map fun z => [iv z])
theorem place37 {h : Hp} {q : Nat} {X F : Option Addr} {k c m d : Nat} {pk : List Int} (f : Facts h q X F k c m d pk) (_hm : m ≤ 1000000) {a b : Nat} (ha : a < m) (hb : b < m) :
    Fn Tryz.prog 18 #[iv a, iv b, .pointer (some ⟨q, 0, none⟩)] h fun v h' => v = iv (cmpI (pk.getD b 0) (pk.getD a 0)) ∧ h' = h := by
  have hl : pk.length = m := by simpa using f.tab.len
  obtain ⟨g, hg⟩ := f.tab.ad (by omega)
  have ld : ∀ j, j < m → h.cell? (g.add ((j : Int).toNat * 1)) = some (iv (pk.getD j 0)) := fun j hj => by
    rw [Int.toNat_natCast]
    exact f.tab.one hg (r := [iv (pk.getD j 0)]) (by rw [List.getElem?_map, List.getElem?_eq_getElem (by omega), List.getD_eq_getElem?_getD, List.getElem?_eq_getElem (by omega)]; rfl) rfl
  have cl : ∀ j v, [Value.slice X k c, .slice F m d][j]? = some v → h.cell? ⟨q, j, none⟩ = some v := fun j v hv => by
    unfold Hp.cell?
    simp only [f.cell]
    simpa using hv
  refine Fn.intro (args := [iv a, iv b, .pointer (some ⟨q, 0, none⟩)]) mix14 Tryz.func18 rfl (by decide) Tryz.ntmps18 rfl (low18 rfl) rfl ?_
  conv => whnf
  refine .hp (.slice F m d) (cl 1 _ rfl) ?_
  conv => whnf
  refine .mk g hg (by omega) (by omega) ?_
  conv => whnf
  refine .hp _ (ld b hb) ?_
  conv => whnf
  refine .hp (.slice F m d) (cl 1 _ rfl) ?_
  conv => whnf
  refine .mk g hg (by omega) (by omega) ?_
  conv => whnf
  refine .hp _ (ld a ha) ?_
  conv => whnf
  refine .mk _ (compare29 _ _ h) ?_ ?_
  · rintro _ _ ⟨rfl, rfl⟩; exact Hp.le_refl _
  rintro _ _ ⟨rfl, rfl⟩
  conv => whnf
  exact .done ⟨rfl, rfl⟩
theorem insert77 {h : Hp} {q : Nat} {X F : Option Addr} {k c m d : Nat} {pk : List Int} (f : Facts h q X F k c m d pk) (hm : m ≤ 1000000) (A : Option Addr) (n cap : Nat) (xs : List Nat) (ht : Tab h 1 A n (xs.map fun z : Nat => [iv (z : Int)])) (hn : n ≤ 1000000) (hx : ∀ x ∈ xs, x < m)
    (hs : ∀ i (hi : i + 1 < xs.length), ¬ cmpI (pk.getD xs[i] 0) (pk.getD xs[i + 1] 0) < 0) :
    Fn Tryz.prog 54 #[.slice A n cap, iv 0, iv n, .func (.func 18) #[] #[.pointer (some ⟨q, 0, none⟩)]] h fun v h' => v = .tuple #[] ∧ h' = h := by
  have hl : xs.length = n := by simpa using ht.len
  refine Fn.intro (args := [.slice A n cap, iv 0, iv n, .func (.func 18) #[] #[.pointer (some ⟨q, 0, none⟩)]]) mix14 Tryz.func54 rfl (by decide) Tryz.ntmps54 rfl (low54 rfl) rfl ?_
  conv => whnf
  refine .ok (by omega) (by omega) ?_
  conv => whnf
  refine .mk Nat [0, 1, 2, 3, 8] (fun i => [.v (.slice A n cap), .v (iv 0), .v (iv n), .v (.func (.func 18) #[] #[.pointer (some ⟨q, 0, none⟩)]), .v (iv (i + 1 : Nat))]) (fun _ => []) (fun i h' => h' = h) (fun i => n - i) 0 (fun _ => rfl) rfl rfl rfl ?_
  rintro i e h' rfl
  conv => whnf
  refine br_dec (fun u => ?_) (fun u => ?_)
  · have hi : i + 1 < n := by omega
    obtain ⟨g, hg⟩ := ht.ad (by omega)
    have ld : ∀ j (hj : j < n), h'.cell? (g.add ((j : Int).toNat * 1)) = some (iv (xs[j]'(by omega) : Int)) := fun j hj => by
      rw [Int.toNat_natCast]; exact ht.one hg (r := [iv (xs[j]'(by omega) : Int)]) (by simp [hl, hj]) rfl
    conv => whnf
    refine .mk Unit [0, 1, 2, 3, 8, 9] (fun _ => [.v (.slice A n cap), .v (iv 0), .v (iv n), .v (.func (.func 18) #[] #[.pointer (some ⟨q, 0, none⟩)]), .v (iv (i + 1 : Nat)), .v (iv (i + 1 : Nat))]) (fun _ => []) (fun _ h2 => h2 = h') (fun _ => 0) () (fun _ => rfl) rfl rfl rfl ?_
    rintro _ e2 h2 rfl
    conv => whnf
    refine br_dec (fun _ => ?_) (fun q => absurd (show ((i + 1 : Nat) : Int) > 0 by omega) q)
    conv => whnf
    refine .mk g hg (by omega) (by omega) ?_
    conv => whnf
    refine .hp _ (ld (i + 1) hi) ?_
    conv => whnf
    refine .ok (by omega) (by omega) ?_
    conv => whnf
    have e0 : ((i + 1 : Nat) : Int) - 1 = (i : Nat) := by omega
    rw [e0]
    refine .mk g hg (by omega) (by omega) ?_
    conv => whnf
    refine .hp _ (ld i (by omega)) ?_
    conv => whnf
    refine .mk _ (place37 f hm (hx _ (List.getElem_mem _)) (hx _ (List.getElem_mem _))) ?_ ?_
    · rintro _ _ ⟨rfl, rfl⟩; exact Hp.le_refl _
    rintro _ _ ⟨rfl, rfl⟩
    conv => whnf
    refine br_dec (fun w => absurd w (hs i (by omega))) (fun _ => ?_)
    conv => whnf
    refine .ok (by omega) (by omega) ?_
    conv => whnf
    exact ⟨i + 1, rfl, rfl, rfl, by omega⟩
  · conv => whnf
    exact .done ⟨rfl, rfl⟩
theorem stable58 {h : Hp} {q : Nat} {X F : Option Addr} {k c m d : Nat} {pk : List Int} (f : Facts h q X F k c m d pk) (hm : m ≤ 1000000) (A : Option Addr) (n cap : Nat) (xs : List Nat) (ht : Tab h 1 A n (xs.map fun z : Nat => [iv (z : Int)])) (hn : n < 20) (hx : ∀ x ∈ xs, x < m)
    (hs : ∀ i (hi : i + 1 < xs.length), ¬ cmpI (pk.getD xs[i] 0) (pk.getD xs[i + 1] 0) < 0) :
    Fn Tryz.prog 39 #[.slice A n cap, iv n, .func (.func 18) #[] #[.pointer (some ⟨q, 0, none⟩)]] h fun v h' => v = .tuple #[] ∧ h' = h := by
  refine Fn.intro (args := [.slice A n cap, iv n, .func (.func 18) #[] #[.pointer (some ⟨q, 0, none⟩)]]) mix14 Tryz.func39 rfl (by decide) Tryz.ntmps39 rfl (low39 rfl) rfl ?_
  conv => whnf
  refine .mk Unit [0, 1, 2, 6, 7, 8] (fun _ => [.v (.slice A n cap), .v (iv n), .v (.func (.func 18) #[] #[.pointer (some ⟨q, 0, none⟩)]), .v (iv 20), .v (iv 0), .v (iv 20)]) (fun _ => []) (fun _ h2 => h2 = h) (fun _ => 0) () (fun _ => rfl) rfl rfl rfl ?_
  rintro _ e2 h2 rfl
  conv => whnf
  refine br_dec (fun w => absurd (show (20 : Int) ≤ (n : Int) from w) (by omega)) (fun _ => ?_)
  conv => whnf
  refine .done (.mk _ (insert77 f hm A n cap xs ht (by omega) hx hs) ?_)
  rintro _ _ ⟨rfl, rfl⟩
  conv => whnf
  refine .mk Unit [0, 1, 2, 6] (fun _ => [.v (.slice A n cap), .v (iv n), .v (.func (.func 18) #[] #[.pointer (some ⟨q, 0, none⟩)]), .v (iv 20)]) (fun _ => []) (fun _ h3 => h3 = _) (fun _ => 0) () (fun _ => rfl) rfl rfl rfl ?_
  rintro _ e3 h3 rfl
  conv => whnf
  refine br_dec (fun w => absurd (show (20 : Int) < (n : Int) from w) (by omega)) (fun _ => ?_)
  conv => whnf
  exact .done ⟨rfl, rfl⟩
theorem stable36 {h : Hp} {q : Nat} {X F : Option Addr} {k c m d : Nat} {pk : List Int} (f : Facts h q X F k c m d pk) (hm : m ≤ 1000000) (A : Option Addr) (n cap : Nat) (xs : List Nat) (ht : Tab h 1 A n (xs.map fun z : Nat => [iv (z : Int)])) (hn : n < 20) (hx : ∀ x ∈ xs, x < m)
    (hs : ∀ i (hi : i + 1 < xs.length), ¬ cmpI (pk.getD xs[i] 0) (pk.getD xs[i + 1] 0) < 0) :
    Fn Tryz.prog 17 #[.slice A n cap, .func (.func 18) #[] #[.pointer (some ⟨q, 0, none⟩)]] h fun v h' => v = .tuple #[] ∧ h' = h := by
  refine Fn.intro (args := [.slice A n cap, .func (.func 18) #[] #[.pointer (some ⟨q, 0, none⟩)]]) mix14 Tryz.func17 rfl (by decide) Tryz.ntmps17 rfl (low17 rfl) rfl ?_
  conv => whnf
  refine .done (.mk _ (stable58 f hm A n cap xs ht hn hx hs) ?_)
  rintro _ _ ⟨rfl, rfl⟩
  conv => whnf
  exact .done ⟨rfl, rfl⟩
end Go.Sx
namespace Go.Sx
open Go.Proofs Go.Sort
theorem toks_bnd {N T : Nat} {arcs : List Arc} {f : List Int} (hs : chk N arcs = 0) (g : Good N arcs f T) : (toksOf arcs f).length = arcs.length ∧ ∀ x ∈ toksOf arcs f, 0 ≤ x ∧ x ≤ 256 + 64 * (T : Int) := by
  refine ⟨toksOf_len _ _, fun x hx => ?_⟩
  obtain ⟨a, ha, rfl⟩ := List.mem_map.1 hx
  exact ⟨g.tok a ha, g.tok_le hs ha⟩
theorem alongR_bnd {N : Nat} {arcs : List Arc} (hs : chk N arcs = 0) : ∀ (zs f : List Int) (T : Nat), Good N arcs f T → ∀ r ∈ (alongR N arcs zs f).2, r.length = arcs.length ∧ ∀ x ∈ r, 0 ≤ x ∧ x ≤ 256 + 64 * ((T + zs.length : Nat) : Int)
  | [], _, _, _ => fun r h => by cases h
  | v :: zs, f, T, g => by
    unfold alongR
    split
    · intro r h; cases h
    · rename_i hv
      split
      · rename_i hm
        obtain ⟨k, rfl⟩ : ∃ k : Nat, v = k := ⟨v.toNat, by omega⟩
        have g2 := g.bump hs hm
        intro r hr
        rcases List.mem_cons.1 hr with rfl | hr
        · obtain ⟨a, b⟩ := toks_bnd hs g2
          refine ⟨a, fun x hx => ?_⟩
          have := b x hx
          simp only [List.length_cons]
          push_cast at this ⊢
          omega
        · obtain ⟨a, b⟩ := alongR_bnd hs zs _ _ g2 r hr
          refine ⟨a, fun x hx => ?_⟩
          have := b x hx
          simp only [List.length_cons]
          push_cast at this ⊢
          omega
      · intro r h; cases h
theorem along_chk {N : Int} {arcs : List Arc} {zs : List Int} (h : (along N arcs zs).1 = 0) : chk N arcs = 0 := by
  refine Decidable.byContradiction fun hs => ?_
  rw [along_bad hs] at h
  exact hs h
theorem along_bnd {N : Int} {arcs : List Arc} {zs : List Int} (h : (along N arcs zs).1 = 0) : ∀ r ∈ (along N arcs zs).2, r.length = arcs.length ∧ ∀ x ∈ r, 0 ≤ x ∧ x ≤ 131328 := by
  have hs := along_chk h
  have hNb := chk_zero hs
  obtain ⟨N, rfl⟩ : ∃ q : Nat, N = q := ⟨N.toNat, by omega⟩
  have hl : ¬ 2048 < zs.length := fun q => by rw [along_long hs q] at h; cases h
  rw [along_ok hs hl]
  intro r hr
  rcases List.mem_cons.1 hr with rfl | hr
  · obtain ⟨a, b⟩ := toks_bnd hs (good_zero hs)
    exact ⟨a, fun x hx => by have := b x hx; omega⟩
  · obtain ⟨a, b⟩ := alongR_bnd hs zs _ _ (good_zero hs) r hr
    exact ⟨a, fun x hx => by have := b x hx; omega⟩
theorem zip_max {a b : List Int} {m i : Nat} (ha : a.length = m) (hb : b.length = m) (hi : i < m) : (List.zipWith max a b).getD i 0 = max (a.getD i 0) (b.getD i 0) := by
  simp only [List.getD_eq_getElem?_getD]
  rw [List.getElem?_eq_getElem (by simp; omega), List.getElem?_eq_getElem (by omega), List.getElem?_eq_getElem (by omega), List.getElem_zipWith]
  rfl
theorem fold_max {m : Nat} : ∀ (rs : List (List Int)) (r : List Int), r.length = m → (∀ s ∈ rs, s.length = m) → (rs.foldl (fun a b => List.zipWith max a b) r).length = m ∧ ∀ i, i < m →
    r.getD i 0 ≤ (rs.foldl (fun a b => List.zipWith max a b) r).getD i 0 ∧ (∀ s ∈ rs, s.getD i 0 ≤ (rs.foldl (fun a b => List.zipWith max a b) r).getD i 0) ∧
    ((rs.foldl (fun a b => List.zipWith max a b) r).getD i 0 = r.getD i 0 ∨ ∃ s ∈ rs, (rs.foldl (fun a b => List.zipWith max a b) r).getD i 0 = s.getD i 0)
  | [], r, hr, _ => ⟨hr, fun i hi => ⟨Int.le_refl _, (fun s h => by cases h), .inl rfl⟩⟩
  | s :: rs, r, hr, hs => by
    have h1 := hs s (List.mem_cons_self ..)
    have hz : (List.zipWith max r s).length = m := by simp; omega
    obtain ⟨a, b⟩ := fold_max rs (List.zipWith max r s) hz fun x hx => hs x (List.mem_cons_of_mem _ hx)
    refine ⟨a, fun i hi => ?_⟩
    obtain ⟨c, d, e⟩ := b i hi
    have hm := zip_max hr h1 hi
    simp only [List.foldl_cons]
    rw [hm] at c e
    refine ⟨by omega, fun x hx => ?_, ?_⟩
    · rcases List.mem_cons.1 hx with rfl | hx
      · omega
      · exact d x hx
    · rcases e with e | ⟨x, hx, e⟩
      · rcases Int.le_total (r.getD i 0) (s.getD i 0) with h | h
        · exact .inr ⟨s, List.mem_cons_self .., by omega⟩
        · exact .inl (by omega)
      · exact .inr ⟨x, List.mem_cons_of_mem _ hx, e⟩
/-- the most that each arc has -/
structure Peaks (rows : List (List Int)) (m : Nat) (pk : List Int) : Prop where
  len : pk.length = m
  up : ∀ i, i < m → ∀ r ∈ rows, r.getD i 0 ≤ pk.getD i 0
  is : ∀ i, i < m → ∃ r ∈ rows, pk.getD i 0 = r.getD i 0
theorem maxes_peaks {rows : List (List Int)} {m : Nat} (hne : rows ≠ []) (hl : ∀ r ∈ rows, r.length = m) : Peaks rows m (maxes rows) := by
  cases rows with
  | nil => exact absurd rfl hne
  | cons r rs =>
    obtain ⟨a, b⟩ := fold_max rs r (hl r (List.mem_cons_self ..)) fun s hs => hl s (List.mem_cons_of_mem _ hs)
    refine ⟨a, fun i hi s hs => ?_, fun i hi => ?_⟩
    · obtain ⟨c, d, _⟩ := b i hi
      rcases List.mem_cons.1 hs with rfl | hs
      · exact c
      · exact d s hs
    · obtain ⟨_, _, e⟩ := b i hi
      rcases e with e | ⟨s, hs, e⟩
      · exact ⟨r, List.mem_cons_self .., e⟩
      · exact ⟨s, List.mem_cons_of_mem _ hs, e⟩
theorem look_peaks {N : Int} {arcs : List Arc} {zs : List Int} (h : (along N arcs zs).1 = 0) : Peaks (along N arcs zs).2 arcs.length (maxes (along N arcs zs).2) ∧ ∀ i, i < arcs.length → 0 ≤ (maxes (along N arcs zs).2).getD i 0 ∧ (maxes (along N arcs zs).2).getD i 0 ≤ 131328 := by
  have hb := along_bnd h
  have p := maxes_peaks (along_ne h) fun r hr => (hb r hr).1
  refine ⟨p, fun i hi => ?_⟩
  obtain ⟨r, hr, e⟩ := p.is i hi
  obtain ⟨a, b⟩ := hb r hr
  rw [e, List.getD_eq_getElem?_getD, List.getElem?_eq_getElem (by omega)]
  exact b _ (List.getElem_mem _)
/-! ### a plan is made, arc by arc -/
def shiftR (x y : Pr) : Pr := if shareR x y then (y.1 + y.2, x.2) else x
def foldB (s : Int) (ys : List Pr) : Pr := ys.foldl shiftR (0, s)
theorem foldB_snoc (s : Int) (ys : List Pr) (y : Pr) : foldB s (ys ++ [y]) = shiftR (foldB s ys) y := by simp [foldB]
def busyR (near : List Int) (regs : List Pr) (plc : List Bool) : List Pr := near.filterMap fun z => if plc.getD z.toNat false then some (regs.getD z.toNat (0, 0)) else none
theorem busyR_snoc (l : List Int) (z : Int) (regs : List Pr) (plc : List Bool) : busyR (l ++ [z]) regs plc = busyR l regs plc ++ busyR [z] regs plc := by simp [busyR, List.filterMap_append]
inductive Run (ps : List Pr) (pk : List Int) (m : Nat) : List Nat → List Pr → List Bool → Prop
  | nil : Run ps pk m [] (List.replicate m (0, 0)) (List.replicate m false)
  | step {os : List Nat} {regs : List Pr} {plc : List Bool} (a : Nat) (ys : List Pr) (h : Run ps pk m os regs plc) (hs : Sorted (Go.Proofs.ltOf cfB) (busyR (nearR ps a) regs plc) ys) : Run ps pk m (os ++ [a]) (regs.set a (foldB (pk.getD a 0) ys)) (plc.set a true)
theorem Run.lens {ps : List Pr} {pk : List Int} {m : Nat} {os : List Nat} {regs : List Pr} {plc : List Bool} (r : Run ps pk m os regs plc) : regs.length = m ∧ plc.length = m := by
  induction r with
  | nil => simp
  | step a ys _ _ ih => simpa using ih
theorem busy_mem {near : List Int} {regs : List Pr} {plc : List Bool} {x : Pr} (h : x ∈ busyR near regs plc) : ∃ z ∈ near, plc.getD z.toNat false = true ∧ x = regs.getD z.toNat (0, 0) := by
  obtain ⟨z, hz, e⟩ := List.mem_filterMap.1 h
  split at e
  · rename_i hp
    injection e with e
    exact ⟨z, hz, hp, e.symm⟩
  · cases e
theorem foldB_bnd {s B : Int} {ys : List Pr} (hB : 0 ≤ B) (hy : ∀ y ∈ ys, 0 ≤ y.1 ∧ 0 ≤ y.2 ∧ y.1 + y.2 ≤ B) : (foldB s ys).2 = s ∧ 0 ≤ (foldB s ys).1 ∧ (foldB s ys).1 ≤ B := by
  have key : ∀ (ys : List Pr) (x : Pr), x.2 = s → 0 ≤ x.1 → x.1 ≤ B → (∀ y ∈ ys, 0 ≤ y.1 ∧ 0 ≤ y.2 ∧ y.1 + y.2 ≤ B) → (ys.foldl shiftR x).2 = s ∧ 0 ≤ (ys.foldl shiftR x).1 ∧ (ys.foldl shiftR x).1 ≤ B := by
    intro ys
    induction ys with
    | nil => intro x a b c _; exact ⟨a, b, c⟩
    | cons y ys ih =>
      intro x a b c hy
      have h1 := hy y (List.mem_cons_self ..)
      have h2 := fun z hz => hy z (List.mem_cons_of_mem _ hz)
      simp only [List.foldl_cons]
      unfold shiftR
      split
      · exact ih _ a (by show 0 ≤ y.1 + y.2; omega) h1.2.2 h2
      · exact ih _ a b c h2
  exact key ys (0, s) rfl (Int.le_refl _) hB hy
/-- every region has begun early, and is as great as its arc's peak -/
theorem Run.bnd {ps : List Pr} {pk : List Int} {m : Nat} {os : List Nat} {regs : List Pr} {plc : List Bool} (r : Run ps pk m os regs plc) (hpk : ∀ i, 0 ≤ pk.getD i 0 ∧ pk.getD i 0 ≤ 131328) : ∀ x ∈ regs, 0 ≤ x.1 ∧ 0 ≤ x.2 ∧ x.1 + x.2 ≤ 131328 * (os.length : Int) := by
  induction r with
  | nil => intro x hx; rw [List.eq_of_mem_replicate hx]; simp
  | @step os regs plc a ys h hs ih =>
    have hp := hpk a
    have hb : ∀ y ∈ ys, 0 ≤ y.1 ∧ 0 ≤ y.2 ∧ y.1 + y.2 ≤ 131328 * (os.length : Int) := fun y hy => by
      obtain ⟨z, _, hz, rfl⟩ := busy_mem ((hs.perm.mem_iff).1 hy)
      have hl := h.lens
      have hlt : z.toNat < regs.length := by
        rw [hl.1]
        refine Decidable.byContradiction fun q => ?_
        rw [List.getD_eq_getElem?_getD, List.getElem?_eq_none (by omega)] at hz
        cases hz
      rw [List.getD_eq_getElem?_getD, List.getElem?_eq_getElem hlt]
      exact ih _ (List.getElem_mem hlt)
    obtain ⟨e1, e2, e3⟩ := foldB_bnd (s := pk.getD a 0) (B := 131328 * (os.length : Int)) (by omega) hb
    intro x hx
    rw [List.length_append, List.length_singleton]
    push_cast
    rcases List.mem_or_eq_of_mem_set hx with hx | rfl
    · have := ih x hx; omega
    · omega
end Go.Sx
namespace Go.Sx
open Go.Proofs Go.Sort
set_option maxRecDepth 100000
/-- what is wrong with regions by themselves -/
def regE : List Pr → List Int → Int
  | x :: rs, p :: pk => if min x.1 x.2 < 0 ∨ 1024 < max x.1 x.2 then 1 else if x.2 < p then 190 else regE rs pk
  | _, _ => 0
def InR (x : Pr) : Prop := 0 ≤ x.1 ∧ x.1 ≤ 1024 ∧ 0 ≤ x.2 ∧ x.2 ≤ 1024
theorem regE_ok : ∀ (rs : List Pr) (pk : List Int), regE rs pk = 0 → rs.length = pk.length → ∀ i, i < rs.length → InR (rs.getD i (0, 0)) ∧ pk.getD i 0 ≤ (rs.getD i (0, 0)).2
  | [], _, _, _ => fun i h => by simp at h
  | x :: rs, [], _, hl => by simp at hl
  | x :: rs, p :: pk, h, hl => by
    unfold regE at h
    split at h
    · cases h
    · rename_i h1
      split at h
      · cases h
      · rename_i h2
        have ih := regE_ok rs pk h (by simpa using hl)
        intro i hi
        cases i with
        | zero => exact ⟨⟨by show 0 ≤ x.1; omega, by show x.1 ≤ 1024; omega, by show 0 ≤ x.2; omega, by show x.2 ≤ 1024; omega⟩, by show p ≤ x.2; omega⟩
        | succ i => exact ih i (by simpa using hi)
def hitR (rs : List Pr) (p : Pr) : Bool := shareR (rs.getD p.1.toNat (0, 0)) (rs.getD p.2.toNat (0, 0))
def planE (ps : List Pr) (pk : List Int) (m : Nat) (rs : List Pr) (t : Int) : Int :=
  if rs.length ≠ m then 1 else if regE rs pk ≠ 0 then regE rs pk else if t ≠ totalR rs then 191 else if 1024 < t then 5 else if ps.any (hitR rs) = true then 192 else 0
def checkE (N : Int) (arcs : List Arc) (zs : List Int) (rs : List Pr) (t : Int) : Int :=
  if lookE N arcs zs ≠ 0 then lookE N arcs zs else planE (pairsR (along N arcs zs).2 arcs.length) (maxes (along N arcs zs).2) arcs.length rs t
theorem InR.sm {x : Pr} (h : InR x) : Sm x := by obtain ⟨a, b, c, d⟩ := h; exact ⟨by omega, by omega, by omega, by omega⟩
theorem check22 (N : Int) (n cap : Nat) (arcs : List Arc) (A D : Option Addr) (r cap2 : Nat) (zs : List Int) (h : Hp) (ht : Tab h 5 A n (arcs.map Arc.cells)) (hn : n * 40 ≤ 140737488355328) (hz : Tab h 1 D r (zs.map fun z => [iv z])) (P : Option Addr) (pn pcap : Nat) (rs : List Pr) (t : Int) (hp : Tab h 2 P pn (rs.map pc)) :
    Fn Tryz.prog 13 #[netV N A n cap, regV P pn pcap t, .slice D r cap2] h fun v h' => v = iv (checkE N arcs zs rs t) ∧ h.le h' := by
  have hpl : rs.length = pn := by simpa using hp.len
  refine Fn.intro (args := [netV N A n cap, regV P pn pcap t, .slice D r cap2]) mix14 Tryz.func13 rfl (by decide) Tryz.ntmps13 rfl (low13 rfl) rfl ?_
  conv => whnf
  refine .done (.mk _ (look35 N n cap arcs A D r cap2 zs h ht hn hz) ?_)
  rintro v h1 ⟨l1, hb, hg⟩
  by_cases he : lookE N arcs zs = 0
  · obtain ⟨E, c, F, d, rfl, tE, tF⟩ := hg he
    have hal : (along N arcs zs).1 = 0 := by
      refine Decidable.byContradiction fun q => ?_
      unfold lookE at he
      rw [if_pos q] at he
      exact q he
    have hchk := along_chk hal
    have hm := (chk_zero hchk).2.2.1
    have hC : checkE N arcs zs rs t = planE (pairsR (along N arcs zs).2 arcs.length) (maxes (along N arcs zs).2) arcs.length rs t := by unfold checkE; rw [if_neg (fun q => q he)]
    have hpm : ∀ p ∈ pairsR (along N arcs zs).2 arcs.length, (0 ≤ p.1 ∧ p.1.toNat < arcs.length) ∧ 0 ≤ p.2 ∧ p.2.toNat < arcs.length := fun p hp => by
      obtain ⟨i, j, rfl, a, b, _⟩ := pairs_mem.1 hp
      exact ⟨⟨by show (0 : Int) ≤ (i : Int); omega, by show (i : Int).toNat < _; omega⟩, by show (0 : Int) ≤ (j : Int); omega, by show (j : Int).toNat < _; omega⟩
    have hps : (pairsR (along N arcs zs).2 arcs.length).length ≤ 9216 := Nat.le_trans (all_pairs arcs.length _ ((pairs_sorted _ _).imp fun {a b} h e => by rw [e] at h; exact pl_irr _ h) fun p hp => by
      obtain ⟨i, j, e, a, b, _⟩ := pairs_mem.1 hp
      exact ⟨i, j, e, by omega, b⟩) (Nat.mul_le_mul hm hm)
    rw [hC]
    have hpk : (maxes (along N arcs zs).2).length = arcs.length := by simpa using tF.len
    generalize pairsR (along N arcs zs).2 arcs.length = ps at tE hpm hps ⊢
    generalize maxes (along N arcs zs).2 = pk at tF hpk ⊢
    have hpsl : ps.length = ps.length := rfl
    have hp1 := hp.mono l1
    generalize hc1 : IR.seq (.reg ir13_r7) (.block 0 (.loop ir13_l1)) = c1
    generalize hc2 : IR.seq (.reg ir13_r20) (.block 4 (.loop ir13_l2)) = c2
    conv => whnf
    refine br_dec (fun u => ?_) (fun u => ?_)
    · conv => whnf
      refine .done ⟨?_, l1⟩
      unfold planE
      rw [if_pos (by omega)]; rfl
    have hlen : rs.length = arcs.length := by omega
    have hP1 : planE ps pk arcs.length rs t = if regE rs pk ≠ 0 then regE rs pk else if t ≠ totalR rs then 191 else if 1024 < t then 5 else if ps.any (hitR rs) = true then 192 else 0 := by unfold planE; rw [if_neg (by omega)]
    rw [hP1]
    conv => whnf
    subst hc1
    conv => whnf
    refine .mk Nat [4, 7, 30, 31, 32] (fun k => [.p 1 0, .p 2 0, .v (.slice P pn pcap), .v (iv pn), .v (iv k)])
      (fun _ => [.own [.v (iv N), .v (.slice A n cap)] 24, .own [.v (.slice P pn pcap), .v (iv t)] 30, .own [.v (.slice E ps.length c), .v (.slice F arcs.length d)] 50])
      (fun k h' => h' = h1 ∧ k ≤ pn ∧ regE rs pk = regE (rs.drop k) (pk.drop k)) (fun k => pn - k) 0 (fun _ => rfl) ⟨rfl, Nat.zero_le _, rfl⟩ rfl rfl ?_
    rintro k e h' ⟨rfl, hk, hreg⟩
    conv => whnf
    refine br_dec (fun u1 => ?_) (fun u1 => ?_)
    · have hk' : k < rs.length := by omega
      obtain ⟨g, hg⟩ := hp1.ad (by omega)
      obtain ⟨x, hx⟩ : ∃ x, x = rs[k] := ⟨_, rfl⟩
      obtain ⟨p, hpp⟩ : ∃ p, p = pk[k]'(by omega) := ⟨_, rfl⟩
      have hget : (rs.map pc)[k]? = some (pc x) := by rw [List.getElem?_map, List.getElem?_eq_getElem hk', hx]; rfl
      have d1 : rs.drop k = x :: rs.drop (k + 1) := by rw [hx]; exact List.drop_eq_getElem_cons hk'
      have d2 : pk.drop k = p :: pk.drop (k + 1) := by rw [hpp]; exact List.drop_eq_getElem_cons (by omega)
      rw [d1, d2, regE] at hreg
      conv => whnf
      refine .mk g hg (by omega) (by omega) ?_
      conv => whnf
      refine .hp (pc x) rfl (by rw [Int.toNat_natCast]; exact hp1.row hg hget) ?_
      conv => whnf
      refine br_dec (fun u2 => ?_) (fun u2 => ?_)
      · rw [if_pos (.inl u2)] at hreg
        conv => whnf
        refine .done ⟨?_, l1⟩
        rw [hreg]; rfl
      conv => whnf
      refine br_dec (fun u3 => ?_) (fun u3 => ?_)
      · rw [if_pos (.inr u3)] at hreg
        conv => whnf
        refine .done ⟨?_, l1⟩
        rw [hreg]; rfl
      rw [if_neg (by omega)] at hreg
      obtain ⟨gF, hgF⟩ := tF.ad (by omega)
      conv => whnf
      refine .mk gF hgF (by omega) (by omega) ?_
      conv => whnf
      refine .hp (iv p) (by rw [Int.toNat_natCast]; exact tF.one hgF (r := [iv p]) (by rw [List.getElem?_map, List.getElem?_eq_getElem (by omega), hpp]; rfl) rfl) ?_
      conv => whnf
      refine br_dec (fun u4 => ?_) (fun u4 => ?_)
      · rw [if_pos u4] at hreg
        conv => whnf
        refine .done ⟨?_, l1⟩
        rw [hreg]; rfl
      rw [if_neg u4] at hreg
      conv => whnf
      refine .ok (by omega) (by omega) ?_
      conv => whnf
      exact ⟨k + 1, rfl, rfl, ⟨rfl, by omega, hreg⟩, by omega⟩
    have hkm : k = pn := by omega
    subst hkm
    rw [List.drop_of_length_le (by omega)] at hreg
    have hreg : regE rs pk = 0 := by rw [hreg]; cases (pk.drop rs.length) <;> rfl
    have hin := regE_ok rs pk hreg (by omega)
    have hInR : ∀ x ∈ rs, InR x := fun x hx => by
      obtain ⟨i, hi, e⟩ := List.getElem_of_mem hx
      have := (hin i hi).1
      rw [List.getD_eq_getElem?_getD, List.getElem?_eq_getElem hi, e] at this
      exact this
    rw [if_neg (fun q => q hreg)]
    conv => whnf
    refine .mk _ (total42 P k pcap rs h' hp1 (fun x hx => (hInR x hx).sm) (by omega)) ?_ ?_
    · rintro _ _ ⟨rfl, rfl⟩; exact Hp.le_refl _
    rintro _ h' ⟨rfl, rfl⟩
    conv => whnf
    refine br_dec (fun w => ?_) (fun w => ?_)
    · rw [if_pos w]
      conv => whnf
      exact .done ⟨rfl, l1⟩
    rw [if_neg w]
    conv => whnf
    refine br_dec (fun w2 => ?_) (fun w2 => ?_)
    · rw [if_pos w2]
      conv => whnf
      exact .done ⟨rfl, l1⟩
    rw [if_neg w2]
    conv => whnf
    subst hc2
    conv => whnf
    refine .mk Nat [4, 72, 73, 74] (fun j => [.p 1 0, .v (.slice E ps.length c), .v (iv ps.length), .v (iv j)])
      (fun _ => [.own [.v (iv N), .v (.slice A n cap)] 24, .own [.v (.slice P k pcap), .v (iv t)] 30])
      (fun j h2 => h2 = h' ∧ j ≤ ps.length ∧ ps.any (hitR rs) = (ps.drop j).any (hitR rs)) (fun j => ps.length - j) 0 (fun _ => rfl) ⟨rfl, Nat.zero_le _, rfl⟩ rfl rfl ?_
    rintro j e2 h2 ⟨rfl, hj, hany⟩
    conv => whnf
    refine br_dec (fun u5 => ?_) (fun u5 => ?_)
    · have hj' : j < ps.length := by omega
      obtain ⟨g, hg⟩ := tE.ad (by omega)
      obtain ⟨p, hpp⟩ : ∃ p, p = ps[j] := ⟨_, rfl⟩
      have hget : (ps.map pc)[j]? = some (pc p) := by rw [List.getElem?_map, List.getElem?_eq_getElem hj', hpp]; rfl
      obtain ⟨⟨p1, p2⟩, p3, p4⟩ := hpm p (by rw [hpp]; exact List.getElem_mem hj')
      have d1 : ps.drop j = p :: ps.drop (j + 1) := by rw [hpp]; exact List.drop_eq_getElem_cons hj'
      rw [d1, List.any_cons] at hany
      obtain ⟨gR, hgR⟩ := hp1.ad (by omega)
      have hrow : ∀ i, i < rs.length → (rs.map pc)[i]? = some (pc (rs.getD i (0, 0))) := fun i hi => by
        rw [List.getElem?_map, List.getD_eq_getElem?_getD, List.getElem?_eq_getElem hi]; rfl
      conv => whnf
      refine .mk g hg (by omega) (by omega) ?_
      conv => whnf
      refine .hp (pc p) rfl (by rw [Int.toNat_natCast]; exact tE.row hg hget) ?_
      conv => whnf
      refine .mk gR hgR (by omega) (by omega) ?_
      conv => whnf
      refine .hp (pc (rs.getD p.1.toNat (0, 0))) rfl (hp1.row hgR (hrow _ (by omega))) ?_
      conv => whnf
      refine .mk gR hgR (by omega) (by omega) ?_
      conv => whnf
      refine .hp (pc (rs.getD p.2.toNat (0, 0))) rfl (hp1.row hgR (hrow _ (by omega))) ?_
      conv => whnf
      refine .mk _ (share41 _ _ h2 (hin _ (by omega)).1.sm (hin _ (by omega)).1.sm) ?_ ?_
      · rintro _ _ ⟨rfl, rfl⟩; exact Hp.le_refl _
      rintro _ _ ⟨rfl, rfl⟩
      have hhit : shareR (rs.getD p.1.toNat (0, 0)) (rs.getD p.2.toNat (0, 0)) = hitR rs p := rfl
      rw [hhit]
      cases hh : hitR rs p with
      | true =>
        rw [hh, Bool.true_or] at hany
        conv => whnf
        refine .done ⟨?_, l1⟩
        rw [if_pos hany]; rfl
      | false =>
        rw [hh, Bool.false_or] at hany
        conv => whnf
        refine .ok (by omega) (by omega) ?_
        conv => whnf
        exact ⟨j + 1, rfl, rfl, ⟨rfl, hj', hany⟩, by omega⟩
    · rw [List.drop_of_length_le (by omega)] at hany
      conv => whnf
      refine .done ⟨?_, l1⟩
      rw [if_neg (by rw [hany]; simp)]; rfl
  · obtain rfl := hb he
    conv => whnf
    refine br_dec (fun _ => ?_) (fun q => absurd he q)
    conv => whnf
    refine .done ⟨?_, l1⟩
    unfold checkE
    rw [if_pos he]; rfl
end Go.Sx
