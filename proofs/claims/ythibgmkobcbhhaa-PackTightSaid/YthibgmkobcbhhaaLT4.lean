/- PackHolds: the law's own function answers true. Conditions: none. -/
import Derived.Test.YthibgmkobcbhhaaM19N
import Derived.Test.YthibgmkobcbhhaaM19V
import Derived.Test.YthibgmkobcbhhaaIr19L
namespace Go.Sx
open Go.Proofs Go.Sort
set_option maxRecDepth 100000
theorem share21 (x y : Pr) (h : Hp) (hx : Sm x) (hy : Sm y) : Fn Try.prog 21 #[.agg #[iv x.1, iv x.2], .agg #[iv y.1, iv y.2]] h fun v h' => v = .bool (shareR x y) ∧ h' = h := by
  obtain ⟨a1, a2, a3, a4⟩ := hx
  obtain ⟨b1, b2, b3, b4⟩ := hy
  have hs := share_iff x y
  have no : ¬ (x.1 < x.1 + x.2 ∧ x.1 < y.1 + y.2 ∧ y.1 < x.1 + x.2 ∧ y.1 < y.1 + y.2) → Value.bool false = .bool (shareR x y) := fun q => by
    rw [← hs] at q
    rw [Bool.eq_false_iff.2 q]
  refine Fn.intro (args := [.agg #[iv x.1, iv x.2], .agg #[iv y.1, iv y.2]]) mix14 Try.func21 rfl (by decide) Try.ntmps21 rfl (low21 rfl) rfl ?_
  conv => whnf
  refine br_dec (fun u1 => ?_) (fun u1 => ?_)
  · conv => whnf
    refine br_dec (fun u2 => ?_) (fun u2 => ?_)
    · conv => whnf
      refine .ok (by omega) (by omega) ?_
      conv => whnf
      refine br_dec (fun u3 => ?_) (fun u3 => ?_)
      · conv => whnf
        refine .ok (by omega) (by omega) ?_
        conv => whnf
        refine .done ⟨congrArg Value.bool ?_, rfl⟩
        show decide (y.1 < x.1 + x.2) = _
        rw [Bool.eq_iff_iff, hs, decide_eq_true_iff]
        omega
      · conv => whnf
        exact .done ⟨no (by omega), rfl⟩
    · conv => whnf
      exact .done ⟨no (by omega), rfl⟩
  · conv => whnf
    exact .done ⟨no (by omega), rfl⟩
/-- what the law's loops read -/
structure Seen (h : Hp) (m T : Nat) (E : Option Addr) (regs : List Pr) (B : Option Addr) (rows : List (List Int)) (J : Nat → Option Addr × Nat) : Prop where
  reg : Tab h 2 E m (regs.map pc)
  lists : ListsAt h B rows J
  lens : ∀ i, i < rows.length → (rows.getD i []).length = m
  small : m ≤ 96
  rl : regs.length = m
  rsz : rows.length ≤ 2049
  rin : ∀ i, i < m → 0 ≤ (regAt regs i).1 ∧ 0 ≤ (regAt regs i).2 ∧ (regAt regs i).1 + (regAt regs i).2 ≤ T
  tle : T ≤ 1024
  fits : ∀ k, k < rows.length → ∀ i, i < m → (rows.getD k []).getD i 0 ≤ (regAt regs i).2
  apart : ∀ k, k < rows.length → ∀ i, i < m → ∀ j, j < i → 0 < (rows.getD k []).getD i 0 → 0 < (rows.getD k []).getD j 0 → shareR (regAt regs i) (regAt regs j) = false
namespace Seen
variable {h : Hp} {m T : Nat} {E : Option Addr} {regs : List Pr} {B : Option Addr} {rows : List (List Int)} {J : Nat → Option Addr × Nat}
theorem outer (s : Seen h m T E regs B rows J) {g : Addr} (hg : B = some g) {k : Nat} (hk : k < rows.length) : h.cell? (g.add ((k : Int).toNat * 1)) = some (.slice (J k).1 m (J k).2) := by
  rw [Int.toNat_natCast]
  exact s.lists.outer.one hg (map_range hk) (by rw [s.lens k hk]; rfl)
theorem inn (s : Seen h m T E regs B rows J) {k : Nat} (hk : k < rows.length) {g : Addr} (hg : (J k).1 = some g) {i : Nat} (hi : i < m) : h.cell? (g.add ((i : Int).toNat * 1)) = some (iv ((rows.getD k []).getD i 0)) := by
  have hin := s.lists.inner k hk
  have hl := s.lens k hk
  rw [hl] at hin
  rw [Int.toNat_natCast]
  exact hin.one hg (r := [iv ((rows.getD k []).getD i 0)]) (by rw [List.getElem?_map, List.getD_eq_getElem?_getD (i := i), List.getElem?_eq_getElem (by omega)]; rfl) rfl
theorem inAd (s : Seen h m T E regs B rows J) {k : Nat} (hk : k < rows.length) (hm : 0 < m) : ∃ g, (J k).1 = some g := by
  have := s.lens k hk
  exact (s.lists.inner k hk).ad (by omega)
theorem regRow (s : Seen h m T E regs B rows J) {g : Addr} (hg : E = some g) {i : Nat} (hi : i < m) : ∀ j v, (pc (regAt regs i))[j]? = some v → h.cell? ((g.add ((i : Int).toNat * 2)).add j) = some v := fun j v hv => by
  rw [Int.toNat_natCast]
  refine s.reg.row hg (i := i) ?_ j v hv
  have := s.rl
  rw [List.getElem?_map, List.getElem?_eq_getElem (by omega)]
  unfold regAt
  rw [List.getD_eq_getElem?_getD, List.getElem?_eq_getElem (by omega)]
  rfl
theorem sm (s : Seen h m T E regs B rows J) {i : Nat} (hi : i < m) : Sm (regAt regs i) := by
  have := s.rin i hi
  have := s.tle
  exact ⟨by omega, by omega, by omega, by omega⟩
end Seen
abbrev Ls2 (N : Int) (A : Option Addr) (n cap : Nat) (E : Option Addr) (m c : Nat) (T : Nat) : List LE := [.own [.v (iv N), .v (.slice A n cap)] 24, .own [.v (.slice E m c), .v (iv T)] 41]
abbrev Ls3 (N : Int) (A : Option Addr) (n cap : Nat) (E : Option Addr) (m c : Nat) (T : Nat) (x : Pr) : List LE := [.own [.v (iv N), .v (.slice A n cap)] 24, .own [.v (.slice E m c), .v (iv T)] 41, .own [.v (iv x.1), .v (iv x.2)] 50]
theorem loop3 (Q : Post) (e : Env) (L : List LE) (N : Int) (A D B E : Option Addr) (n r cap cap2 m T c cB k i : Nat) (room : Int) (regs : List Pr) (rows : List (List Int)) (J : Nat → Option Addr × Nat) (h' : Hp) (s : Seen h' m T E regs B rows J) (hk : k < rows.length) (hi : i < m)
    (heE : [1, 2, 5, 7, 12, 13, 14, 15, 16].map e = [.v (.slice D r cap2), .p 0 0, .p 1 0, .v (.slice B rows.length cB), .v (iv k), .v (iv room), .v (iv i), .p 2 0, .v (iv (0 : Nat))])
    (hL : L.take 3 = Ls3 N A n cap E m c T (regAt regs i))
    (hQ : ∀ e, [1, 2, 5, 7, 12, 13, 14].map e = [.v (.slice D r cap2), .p 0 0, .p 1 0, .v (.slice B rows.length cB), .v (iv k), .v (iv room), .v (iv i)] → Q (.exit 4) e (Ls3 N A n cap E m c T (regAt regs i)) h') :
    EvLoop (fun Q e L h => wpIR Try.prog 211 ir4_l3 Q e L h) Q e L h' := by
  refine .mk Nat [1, 2, 5, 7, 12, 13, 14, 15, 16] (fun j => [.v (.slice D r cap2), .p 0 0, .p 1 0, .v (.slice B rows.length cB), .v (iv k), .v (iv room), .v (iv i), .p 2 0, .v (iv j)])
    (fun _ => Ls3 N A n cap E m c T (regAt regs i)) (fun j h'' => h'' = h' ∧ j ≤ i) (fun j => i - j) 0 (fun _ => rfl) ⟨rfl, Nat.zero_le _⟩ heE hL ?_
  rintro j e2 h'' ⟨rfl, hj⟩
  obtain ⟨g, hg⟩ := s.lists.outer.ad (by omega)
  obtain ⟨g2, hg2⟩ := s.inAd hk (by omega)
  obtain ⟨g3, hg3⟩ := s.reg.ad (by omega)
  have ldO := s.outer hg hk
  have ldI := s.inn hk hg2 hi
  have hrs := s.rsz
  have hms := s.small
  conv => whnf
  refine br_dec (fun u => ?_) (fun u => ?_)
  · have hj' : j < i := by omega
    have ldJ := s.inn hk hg2 (i := j) (by omega)
    have ldR := s.regRow hg3 (i := j) (by omega)
    have ap := s.apart k hk i hi j hj'
    have sh := share21 (regAt regs i) (regAt regs j) h'' (s.sm hi) (s.sm (by omega))
    generalize (rows.getD k []).getD i 0 = zi at ldI ap
    generalize (rows.getD k []).getD j 0 = zj at ldJ ap
    conv => whnf
    refine .mk g hg (by omega) (by omega) ?_
    conv => whnf
    refine .hp _ ldO ?_
    conv => whnf
    refine .mk g2 hg2 (by omega) (by omega) ?_
    conv => whnf
    refine .hp _ ldI ?_
    conv => whnf
    refine br_dec (fun u1 => ?_) (fun u1 => ?_)
    · conv => whnf
      refine .mk g hg (by omega) (by omega) ?_
      conv => whnf
      refine .hp _ ldO ?_
      conv => whnf
      refine .mk g2 hg2 (by omega) (by omega) ?_
      conv => whnf
      refine .hp _ ldJ ?_
      conv => whnf
      refine br_dec (fun u2 => ?_) (fun u2 => ?_)
      · conv => whnf
        refine .mk g3 hg3 (by omega) (by omega) ?_
        conv => whnf
        refine .hp (pc (regAt regs j)) rfl ldR ?_
        conv => whnf
        refine .mk _ sh ?_ ?_
        · rintro _ _ ⟨_, rfl⟩; exact Hp.le_refl _
        rintro _ h3 ⟨rfl, rfl⟩
        rw [ap u1 u2]
        conv => whnf
        refine .ok (by omega) (by omega) ?_
        conv => whnf
        exact ⟨j + 1, rfl, rfl, ⟨rfl, hj'⟩, by omega⟩
      · conv => whnf
        refine .ok (by omega) (by omega) ?_
        conv => whnf
        exact ⟨j + 1, rfl, rfl, ⟨rfl, hj'⟩, by omega⟩
    · conv => whnf
      refine .ok (by omega) (by omega) ?_
      conv => whnf
      exact ⟨j + 1, rfl, rfl, ⟨rfl, hj'⟩, by omega⟩
  · conv => whnf
    exact hQ _ rfl
def roomAt (regs : List Pr) (row : List Int) (i : Nat) : Int := (((List.range i).filter fun i => posAt row i).map fun i => (regAt regs i).2).sum
theorem roomAt_succ (regs : List Pr) (row : List Int) (i : Nat) : roomAt regs row (i + 1) = roomAt regs row i + if posAt row i = true then (regAt regs i).2 else 0 := by
  unfold roomAt
  rw [List.range_succ, List.filter_append, List.map_append, List.sum_append]
  congr 1
  cases h : posAt row i <;> simp [h]
theorem posAt_def (row : List Int) (i : Nat) : posAt row i = true ↔ 0 < row.getD i 0 := by
  unfold posAt; exact decide_eq_true_iff
theorem loop2 (Q : Post) (e : Env) (L : List LE) (N : Int) (A D B E : Option Addr) (n r cap cap2 m T c cB k : Nat) (regs : List Pr) (rows : List (List Int)) (J : Nat → Option Addr × Nat) (h' : Hp) (s : Seen h' m T E regs B rows J) (hk : k < rows.length)
    (heE : [1, 2, 5, 7, 12, 13, 14].map e = [.v (.slice D r cap2), .p 0 0, .p 1 0, .v (.slice B rows.length cB), .v (iv k), .v (iv 0), .v (iv (0 : Nat))])
    (hL : L.take 2 = Ls2 N A n cap E m c T)
    (hQ : ∀ e, [1, 2, 5, 7, 12, 13].map e = [.v (.slice D r cap2), .p 0 0, .p 1 0, .v (.slice B rows.length cB), .v (iv k), .v (iv (roomAt regs (rows.getD k []) m))] → Q (.exit 2) e (Ls2 N A n cap E m c T) h') :
    EvLoop (fun Q e L h => wpIR Try.prog 211 ir4_l2 Q e L h) Q e L h' := by
  obtain ⟨row, hrow⟩ : ∃ row, row = rows.getD k [] := ⟨_, rfl⟩
  rw [← hrow] at hQ
  refine .mk (Nat × Int) [1, 2, 5, 7, 12, 13, 14] (fun (i, z) => [.v (.slice D r cap2), .p 0 0, .p 1 0, .v (.slice B rows.length cB), .v (iv k), .v (iv z), .v (iv i)])
    (fun _ => Ls2 N A n cap E m c T) (fun (i, z) h'' => h'' = h' ∧ i ≤ m ∧ z = roomAt regs row i ∧ 0 ≤ z ∧ z ≤ 1024 * i) (fun (i, _) => m - i) (0, 0) (fun (_, _) => rfl) ⟨rfl, Nat.zero_le _, rfl, by omega, by omega⟩ heE hL ?_
  rintro ⟨i, z⟩ e2 h'' ⟨rfl, hi, hz, z0, z1⟩
  obtain ⟨g, hg⟩ := s.lists.outer.ad (by omega)
  have ldO := s.outer hg hk
  have hrs := s.rsz
  have hms := s.small
  conv => whnf
  refine .mk g hg (by omega) (by omega) ?_
  conv => whnf
  refine .hp _ ldO ?_
  conv => whnf
  refine br_dec (fun u => ?_) (fun u => ?_)
  · have hi' : i < m := by omega
    obtain ⟨g2, hg2⟩ := s.inAd hk (by omega)
    obtain ⟨g3, hg3⟩ := s.reg.ad (by omega)
    have ldI := s.inn hk hg2 hi'
    have ldR := s.regRow hg3 hi'
    have hft := s.fits k hk i hi'
    obtain ⟨r0, r1, r2⟩ := s.rin i hi'
    have hT := s.tle
    have hsc := roomAt_succ regs row i
    have hpd := posAt_def row i
    rw [← hrow] at ldI hft
    generalize hzi : row.getD i 0 = zi at ldI hft hpd
    conv => whnf
    refine .mk g3 hg3 (by omega) (by omega) ?_
    conv => whnf
    refine .hp (pc (regAt regs i)) rfl ldR ?_
    conv => whnf
    refine br_dec (fun w => absurd w (by omega)) (fun _ => ?_)
    conv => whnf
    refine .mk g hg (by omega) (by omega) ?_
    conv => whnf
    refine .hp _ ldO ?_
    conv => whnf
    refine .mk g2 hg2 (by omega) (by omega) ?_
    conv => whnf
    refine .hp _ ldI ?_
    conv => whnf
    refine br_dec (fun w => absurd w (by omega)) (fun _ => ?_)
    conv => whnf
    refine .ok (by omega) (by omega) ?_
    conv => whnf
    refine br_dec (fun w => absurd w (by omega)) (fun _ => ?_)
    conv => whnf
    refine .mk g hg (by omega) (by omega) ?_
    conv => whnf
    refine .hp _ ldO ?_
    conv => whnf
    refine .mk g2 hg2 (by omega) (by omega) ?_
    conv => whnf
    refine .hp _ ldI ?_
    conv => whnf
    refine br_dec (fun u1 => ?_) (fun u1 => ?_)
    · rw [if_pos (hpd.2 u1), ← hz] at hsc
      conv => whnf
      refine .ok (by omega) (by omega) ?_
      conv => whnf
      refine loop3 _ _ _ N A D B E n r cap cap2 m T c cB k i (z + (regAt regs i).2) regs rows J h'' s hk hi' rfl rfl (fun e3 he3 => ?_)
      have hself := updL_self [1, 2, 5, 7, 12, 13, 14] e3
      rw [he3] at hself
      rw [← hself]
      conv => whnf
      refine .ok (by omega) (by omega) ?_
      conv => whnf
      exact ⟨(i + 1, z + (regAt regs i).2), rfl, rfl, ⟨rfl, hi', hsc.symm, by omega, by omega⟩, by show m - (i + 1) < m - i; omega⟩
    · rw [if_neg (fun q => u1 (hpd.1 q)), ← hz, Int.add_zero] at hsc
      conv => whnf
      refine loop3 _ _ _ N A D B E n r cap cap2 m T c cB k i z regs rows J h'' s hk hi' rfl rfl (fun e3 he3 => ?_)
      have hself := updL_self [1, 2, 5, 7, 12, 13, 14] e3
      rw [he3] at hself
      rw [← hself]
      conv => whnf
      refine .ok (by omega) (by omega) ?_
      conv => whnf
      exact ⟨(i + 1, z), rfl, rfl, ⟨rfl, hi', hsc.symm, by omega, by omega⟩, by show m - (i + 1) < m - i; omega⟩
  · obtain rfl : i = m := by omega
    conv => whnf
    rw [hz]
    exact hQ _ rfl
theorem lookE_zero {N : Int} {arcs : List Arc} {zs : List Int} (h : lookE N arcs zs = 0) : (along N arcs zs).1 = 0 ∧ homeOf N arcs zs = true := by
  unfold lookE at h
  split at h
  · rename_i g; exact absurd h g
  · rename_i g
    split at h
    · rename_i g2; exact ⟨Decidable.not_not.1 g, g2⟩
    · cases h
theorem fin_seen {h : Hp} {N : Int} {arcs : List Arc} {zs : List Int} {regs : List Pr} {E B : Option Addr} {J : Nat → Option Addr × Nat} {T : Nat} (hal : (along N arcs zs).1 = 0) (f : Fin (along N arcs zs).2 arcs.length (maxes (along N arcs zs).2) regs) (hT : totalR regs = T) (ht : T ≤ 1024)
    (tE : Tab h 2 E arcs.length (regs.map pc)) (hL : ListsAt h B (along N arcs zs).2 J) (hlen : ∀ i, i < (along N arcs zs).2.length → ((along N arcs zs).2.getD i []).length = arcs.length) :
    Seen h arcs.length T E regs B (along N arcs zs).2 J := by
  obtain ⟨pks, pkb⟩ := look_peaks hal
  have hmem : ∀ k, k < (along N arcs zs).2.length → (along N arcs zs).2.getD k [] ∈ (along N arcs zs).2 := fun k hk => by
    rw [List.getD_eq_getElem?_getD, List.getElem?_eq_getElem hk]; exact List.getElem_mem hk
  refine ⟨tE, hL, hlen, (chk_zero (along_chk hal)).2.2.1, f.len, along_size N arcs zs, fun i hi => ?_, ht, fun k hk i hi => ?_, fun k hk i hi j hj p q => ?_⟩
  · have h1 := f.base i hi
    have h2 := f.size i hi
    have h3 := fin_total f hi
    have h4 := (pkb i hi).1
    unfold pkAt at h2
    exact ⟨h1, by omega, by omega⟩
  · have h1 := pks.up i hi _ (hmem k hk)
    have h2 := f.size i hi
    unfold pkAt at h2
    omega
  · refine f.apart i hi j (by omega) ((cl_iff hi (by omega) (by omega)).2 ?_)
    unfold meets
    rw [List.any_eq_true]
    exact ⟨_, hmem k hk, by rw [(posAt_def _ i).2 p, (posAt_def _ j).2 q]; rfl⟩
theorem lawT4 (N : Int) (A D : Option Addr) (n r cap cap2 : Nat) (arcs : List Arc) (zs : List Int) (h : Hp) (ht : Tab h 5 A n (arcs.map Arc.cells)) (hz : Tab h 1 D r (zs.map fun z => [iv z]))
    (hn : n * 40 ≤ 140737488355328) (hr : r * 8 ≤ 140737488355328) :
    Fn Try.prog 4 #[netV N A n cap, .slice D r cap2] h fun v h' => v = .bool true ∧ h.le h' := by
  have hal : arcs.length = n := by simpa using ht.len
  subst hal
  refine Fn.intro (args := [netV N A arcs.length cap, .slice D r cap2]) mix14 Try.func4 rfl (by decide) Try.ntmps4 rfl (low4 rfl) rfl ?_
  conv => whnf
  refine .done (.mk _ (lentNet10 N A arcs.length cap arcs h ht hn) ?_)
  rintro _ h1 ⟨l1, A1, c1, rfl, t1⟩
  conv => whnf
  refine .done (.mk _ (ints24 D r cap2 zs h1 (hz.mono l1) hr) ?_)
  rintro _ h2 ⟨l2, D2, c2, rfl, t2, _⟩
  conv => whnf
  refine .done (.mk _ (place17 N arcs.length c1 arcs A1 D2 r c2 zs h2 (t1.mono l2).tab hn t2.one (fun _ => True) fun he => stab_all _ (by have := (chk_zero (along_chk (lookE_zero he).1)).2.2.1; omega) _) ?_)
  rintro _ h3 ⟨l3, hb3, hg3⟩
  have l03 := Hp.le_trans l1 (Hp.le_trans l2 l3)
  by_cases he : lookE N arcs zs = 0
  · obtain ⟨hal, hhm⟩ := lookE_zero he
    obtain ⟨os, regs, plc, hperm, _, run, hbig, hsm⟩ := hg3 he
    by_cases hT : totalR regs ≤ 1024
    · obtain ⟨EA, rfl, tE⟩ := hsm hT
      conv => whnf
      refine .done (.mk _ (lentNet10 N A arcs.length cap arcs h3 (ht.mono l03) hn) ?_)
      rintro _ h4 ⟨l4, A4, c4, rfl, t4⟩
      conv => whnf
      refine .done (.mk _ (ints24 D r cap2 zs h4 (hz.mono (Hp.le_trans l03 l4)) hr) ?_)
      rintro _ h5 ⟨l5, D5, c5, rfl, t5, _⟩
      conv => whnf
      refine .done (.mk _ (along12 N arcs.length c4 arcs A4 D5 r c5 zs h5 (t4.mono l5).tab hn t5.one) ?_)
      rintro _ h6 ⟨l6, _, hg6⟩
      obtain ⟨_, X, rfl, ⟨B, cB, J, rfl, hra⟩, hX, _⟩ := hg6 hal
      have hL := hra.lists.mono hX
      have hlen := hra.lens
      have l36 := Hp.le_trans l4 (Hp.le_trans l5 l6)
      have l06 := Hp.le_trans l03 l36
      conv => whnf
      refine .done (.mk _ (lentNet10 N A arcs.length cap arcs h6 (ht.mono l06) hn) ?_)
      rintro _ h7 ⟨l7, A7, c7, rfl, t7⟩
      conv => whnf
      refine .done (.mk _ (ints24 D r cap2 zs h7 (hz.mono (Hp.le_trans l06 l7)) hr) ?_)
      rintro _ h8 ⟨l8, D8, c8, rfl, t8, _⟩
      conv => whnf
      refine .done (.mk _ (home22 N arcs.length c7 arcs A7 D8 r c8 zs h8 (t7.mono l8).tab hn t8.one) ?_)
      rintro _ h9 ⟨rfl, l9⟩
      rw [hhm, hal]
      have l69 := Hp.le_trans l7 (Hp.le_trans l8 l9)
      have l09 := Hp.le_trans l06 l69
      have fin := run_fin run (fun i => by
        by_cases hi : i < arcs.length
        · exact ((look_peaks hal).2 i hi).1
        · unfold pkAt
          rw [List.getD_eq_getElem?_getD, List.getElem?_eq_none (by rw [(look_peaks hal).1.len]; omega)]
          exact Int.le_refl _) hperm
      obtain ⟨T, hTT⟩ : ∃ T : Nat, totalR regs = T := ⟨(totalR regs).toNat, by have := total_pos regs; omega⟩
      have seen := fin_seen hal fin hTT (by omega) (tE.mono (Hp.le_trans l36 l69)) (hL.mono l69) hlen
      have chk := fin_check he fin hT
      have hroom := fun k (hk : k < (along N arcs zs).2.length) => room_le fin (fun i => by
        by_cases hi : i < arcs.length
        · exact ((look_peaks hal).2 i hi).1
        · unfold pkAt
          rw [List.getD_eq_getElem?_getD, List.getElem?_eq_none (by rw [(look_peaks hal).1.len]; omega)]
          exact Int.le_refl _) (row := (along N arcs zs).2.getD k []) (by
          rw [List.getD_eq_getElem?_getD, List.getElem?_eq_getElem hk]; exact List.getElem_mem hk)
      have hsz := along_size N arcs zs
      rw [hTT] at hT chk hroom ⊢
      generalize (along N arcs zs).2 = rows at hlen seen hroom hsz ⊢
      clear fin run hbig hsm hg3 hb3 hg6 hperm
      generalize hcc : IR.seq (.odd ir4_r29) .ret = cc
      conv => whnf
      refine br_dec (fun q => absurd rfl q) (fun _ => ?_)
      conv => whnf
      refine br_dec (fun w => absurd w (by omega)) (fun _ => ?_)
      conv => whnf
      refine .mk Nat [1, 2, 5, 7, 12] (fun k => [.v (.slice D r cap2), .p 0 0, .p 1 0, .v (.slice B rows.length cB), .v (iv k)]) (fun _ => Ls2 N A arcs.length cap (some EA) arcs.length arcs.length T) (fun k h' => h' = h9 ∧ k ≤ rows.length) (fun k => rows.length - k) 0 (fun _ => rfl) ⟨rfl, Nat.zero_le _⟩ rfl rfl ?_
      rintro k e h' ⟨rfl, hk⟩
      conv => whnf
      refine br_dec (fun u => ?_) (fun u => ?_)
      · have hk' : k < rows.length := by omega
        have hrm : roomAt regs (rows.getD k []) arcs.length ≤ T := hroom k hk'
        conv => whnf
        refine loop2 _ _ _ N A D B (some EA) arcs.length r cap cap2 arcs.length T arcs.length cB k regs rows _ h' seen hk' rfl rfl (fun e3 he3 => ?_)
        have hself := updL_self [1, 2, 5, 7, 12, 13] e3
        rw [he3] at hself
        rw [← hself]
        generalize roomAt regs (rows.getD k []) arcs.length = z at hrm ⊢
        conv => whnf
        refine br_dec (fun w => absurd w (by omega)) (fun _ => ?_)
        conv => whnf
        refine .ok (by omega) (by omega) ?_
        conv => whnf
        exact ⟨k + 1, rfl, rfl, ⟨rfl, hk'⟩, by omega⟩
      · subst hcc
        conv => whnf
        refine .mk _ (awake14 _) ?_ ?_
        · rintro _ _ ⟨_, l⟩; exact l
        rintro _ h10 ⟨rfl, l10⟩
        have l0X := Hp.le_trans l09 l10
        conv => whnf
        refine .mk _ (lentNet10 N A arcs.length cap arcs h10 (ht.mono l0X) hn) ?_ ?_
        · rintro _ _ ⟨l, _⟩; exact l
        rintro _ h11 ⟨l11, A11, c11, rfl, t11⟩
        conv => whnf
        refine .mk _ (ints24 D r cap2 zs h11 (hz.mono (Hp.le_trans l0X l11)) hr) ?_ ?_
        · rintro _ _ ⟨l, _⟩; exact l
        rintro _ h12 ⟨l12, D12, c12, rfl, t12, _⟩
        conv => whnf
        refine .mk _ (check22 N arcs.length c11 arcs A11 D12 r c12 zs h12 (t11.mono l12).tab hn t12.one (some EA) arcs.length arcs.length regs T (seen.reg.mono (Hp.le_trans l10 (Hp.le_trans l11 l12)))) ?_ ?_
        · rintro _ _ ⟨_, l⟩; exact l
        rintro _ h13 ⟨rfl, l13⟩
        rw [chk]
        conv => whnf
        exact .done ⟨rfl, Hp.le_trans l0X (Hp.le_trans l11 (Hp.le_trans l12 l13))⟩
    · obtain rfl := hbig (by omega)
      conv => whnf
      refine .done (.mk _ (lentNet10 N A arcs.length cap arcs h3 (ht.mono l03) hn) ?_)
      rintro _ h4 ⟨l4, A4, c4, rfl, t4⟩
      conv => whnf
      refine .done (.mk _ (ints24 D r cap2 zs h4 (hz.mono (Hp.le_trans l03 l4)) hr) ?_)
      rintro _ h5 ⟨l5, D5, c5, rfl, t5, _⟩
      conv => whnf
      refine .done (.mk _ (along12 N arcs.length c4 arcs A4 D5 r c5 zs h5 (t4.mono l5).tab hn t5.one) ?_)
      rintro _ h6 ⟨l6, _, hg6⟩
      obtain ⟨_, X, rfl, ⟨B, cB, J, rfl, hra⟩, hX, _⟩ := hg6 hal
      have l06 := Hp.le_trans l03 (Hp.le_trans l4 (Hp.le_trans l5 l6))
      conv => whnf
      refine .done (.mk _ (lentNet10 N A arcs.length cap arcs h6 (ht.mono l06) hn) ?_)
      rintro _ h7 ⟨l7, A7, c7, rfl, t7⟩
      conv => whnf
      refine .done (.mk _ (ints24 D r cap2 zs h7 (hz.mono (Hp.le_trans l06 l7)) hr) ?_)
      rintro _ h8 ⟨l8, D8, c8, rfl, t8, _⟩
      conv => whnf
      refine .done (.mk _ (home22 N arcs.length c7 arcs A7 D8 r c8 zs h8 (t7.mono l8).tab hn t8.one) ?_)
      rintro _ h9 ⟨rfl, l9⟩
      rw [hhm, hal]
      have l09 := Hp.le_trans l06 (Hp.le_trans l7 (Hp.le_trans l8 l9))
      conv => whnf
      refine .done (.mk _ (awake14 _) ?_)
      rintro _ h10 ⟨rfl, l10⟩
      conv => whnf
      exact .done ⟨rfl, Hp.le_trans l09 l10⟩
  · obtain rfl := hb3 he
    conv => whnf
    refine .done (.mk _ (lentNet10 N A arcs.length cap arcs h3 (ht.mono l03) hn) ?_)
    rintro _ h4 ⟨l4, A4, c4, rfl, t4⟩
    conv => whnf
    refine .done (.mk _ (ints24 D r cap2 zs h4 (hz.mono (Hp.le_trans l03 l4)) hr) ?_)
    rintro _ h5 ⟨l5, D5, c5, rfl, t5, _⟩
    conv => whnf
    refine .done (.mk _ (along12 N arcs.length c4 arcs A4 D5 r c5 zs h5 (t4.mono l5).tab hn t5.one) ?_)
    rintro _ h6 ⟨l6, hb6, hg6⟩
    by_cases hal : (along N arcs zs).1 = 0
    · have hhm : homeOf N arcs zs = false := by
        cases hh : homeOf N arcs zs with
        | false => rfl
        | true => exact absurd (by unfold lookE; rw [if_neg (fun q => q hal), if_pos hh]) he
      have hE : lookE N arcs zs = 181 := by unfold lookE; rw [if_neg (fun q => q hal), if_neg (by rw [hhm]; decide)]
      obtain ⟨_, X, rfl, ⟨B, cB, J, rfl, hra⟩, hX, _⟩ := hg6 hal
      have l06 := Hp.le_trans l03 (Hp.le_trans l4 (Hp.le_trans l5 l6))
      conv => whnf
      refine .done (.mk _ (lentNet10 N A arcs.length cap arcs h6 (ht.mono l06) hn) ?_)
      rintro _ h7 ⟨l7, A7, c7, rfl, t7⟩
      conv => whnf
      refine .done (.mk _ (ints24 D r cap2 zs h7 (hz.mono (Hp.le_trans l06 l7)) hr) ?_)
      rintro _ h8 ⟨l8, D8, c8, rfl, t8, _⟩
      conv => whnf
      refine .done (.mk _ (home22 N arcs.length c7 arcs A7 D8 r c8 zs h8 (t7.mono l8).tab hn t8.one) ?_)
      rintro _ h9 ⟨rfl, l9⟩
      rw [hhm, hal, hE]
      have l09 := Hp.le_trans l06 (Hp.le_trans l7 (Hp.le_trans l8 l9))
      conv => whnf
      refine .done (.mk _ (awake14 _) ?_)
      rintro _ h10 ⟨rfl, l10⟩
      conv => whnf
      exact .done ⟨rfl, Hp.le_trans l09 l10⟩
    · have hE : lookE N arcs zs = (along N arcs zs).1 := by unfold lookE; rw [if_pos hal]
      obtain rfl := hb6 hal
      have l06 := Hp.le_trans l03 (Hp.le_trans l4 (Hp.le_trans l5 l6))
      conv => whnf
      refine .done (.mk _ (lentNet10 N A arcs.length cap arcs h6 (ht.mono l06) hn) ?_)
      rintro _ h7 ⟨l7, A7, c7, rfl, t7⟩
      conv => whnf
      refine .done (.mk _ (ints24 D r cap2 zs h7 (hz.mono (Hp.le_trans l06 l7)) hr) ?_)
      rintro _ h8 ⟨l8, D8, c8, rfl, t8, _⟩
      conv => whnf
      refine .done (.mk _ (home22 N arcs.length c7 arcs A7 D8 r c8 zs h8 (t7.mono l8).tab hn t8.one) ?_)
      rintro _ h9 ⟨rfl, l9⟩
      rw [hE]
      generalize (along N arcs zs).1 = err at hal ⊢
      have l09 := Hp.le_trans l06 (Hp.le_trans l7 (Hp.le_trans l8 l9))
      conv => whnf
      refine br_dec (fun _ => ?_) (fun q => absurd hal q)
      conv => whnf
      refine br_dec (fun _ => ?_) (fun q => absurd hal q)
      conv => whnf
      refine br_dec (fun _ => ?_) (fun q => absurd rfl q)
      conv => whnf
      refine .done (.mk _ (awake14 _) ?_)
      rintro _ h10 ⟨rfl, l10⟩
      conv => whnf
      exact .done ⟨rfl, Hp.le_trans l09 l10⟩
end Go.Sx
