/- Layer 19: the document's paired and base. Conditions: none. -/
import Derived.Test.YthibgmkobcbhhaaGreatZ20F
import Derived.Test.YthibgmkobcbhhaaGreatM19Y
namespace Go.Sx
open Go.Proofs Go.Sort
set_option maxRecDepth 100000
theorem paired28 (A : Option Addr) (n ca : Nat) (ps : List Pr) (i j : Int) (h : Hp) (hA : Tab h 2 A n (ps.map pc)) (hn : n ≤ 1000000) :
    Fn Tryz.prog 28 #[.slice A n ca, iv i, iv j] h fun v h' => v = .bool (pairedB ps i j) ∧ h' = h := by
  have hal : ps.length = n := by simpa using hA.len
  refine Fn.intro (args := [.slice A n ca, iv i, iv j]) mix14 Tryz.func28 rfl (by decide) Tryz.ntmps28 rfl (low28 rfl) rfl ?_
  conv => whnf
  refine .mk Nat [0, 1, 2, 7] (fun k => [.v (.slice A n ca), .v (iv i), .v (iv j), .v (iv k)]) (fun _ => []) (fun k h' => h' = h ∧ k ≤ n ∧ pairedB ps i j = pairedB (ps.drop k) i j) (fun k => n - k) 0 (fun _ => rfl) ⟨rfl, Nat.zero_le _, rfl⟩ rfl rfl ?_
  rintro k e h' ⟨rfl, hk, heq⟩
  conv => whnf
  refine br_dec (fun u => ?_) (fun u => ?_)
  · have hk' : k < ps.length := by omega
    obtain ⟨g, hg⟩ := hA.ad (by omega)
    have d1 : ps.drop k = ps[k] :: ps.drop (k + 1) := List.drop_eq_getElem_cons hk'
    have q1 : (ps.map pc)[k]? = some (pc ps[k]) := by rw [List.getElem?_map, List.getElem?_eq_getElem hk']; rfl
    generalize ps[k] = x at d1 q1
    rw [d1] at heq
    have heq : pairedB ps i j = (decide (x = (min i j, max i j)) || pairedB (ps.drop (k + 1)) i j) := heq
    conv => whnf
    refine .mk g hg (by omega) (by omega) ?_
    conv => whnf
    refine .hp (pc x) rfl (by rw [Int.toNat_natCast]; exact hA.row hg q1) ?_
    conv => whnf
    refine br_intro (fun h3 => ?_) (fun h3 => ?_)
    · have h3 : x.1 = min i j ∧ x.2 = max i j := by simpa [Go.Sx.flip] using h3
      conv => whnf
      refine .done ⟨?_, rfl⟩
      rw [heq, decide_eq_true (Prod.ext h3.1 h3.2), Bool.true_or]; rfl
    · have h3 : ¬ (x.1 = min i j ∧ x.2 = max i j) := fun q => by simp [Go.Sx.flip, q.1, q.2] at h3
      rw [decide_eq_false (fun q => h3 (by rw [q]; exact ⟨rfl, rfl⟩)), Bool.false_or] at heq
      conv => whnf
      refine .ok (by omega) (by omega) ?_
      conv => whnf
      exact ⟨k + 1, rfl, rfl, ⟨rfl, by omega, heq⟩, by omega⟩
  · have : k = n := by omega
    subst this
    conv => whnf
    refine .done ⟨?_, rfl⟩
    rw [heq, List.drop_of_length_le (by omega)]; rfl
structure NearAt (h : Hp) (C : Option Addr) (m : Nat) (J : Nat → Option Addr × Nat) (nb : Nat → Nat → Bool) : Prop where
  outer : Tab h 1 C m ((List.range m).map fun i => [.slice (J i).1 m (J i).2])
  inner : ∀ i, i < m → Tab h 1 (J i).1 m ((List.range m).map fun j => [Value.bool (nb i j)])
theorem NearAt.mono {h h' : Hp} {C : Option Addr} {m : Nat} {J : Nat → Option Addr × Nat} {nb : Nat → Nat → Bool} (x : NearAt h C m J nb) (l : h.le h') : NearAt h' C m J nb := ⟨x.outer.mono l, fun i hi => (x.inner i hi).mono l⟩
def FreeP (s : Int) (ys : List Pr) (c : Int) : Prop := ∀ y, y ∈ ys → shareR (c, s) y = false
theorem Srch.begin {s : Int} {ys : List Pr} {C : Nat → Option Pr} {f : Bool} (hf : f = true ↔ FreeP s ys 0) : Srch s (· ∈ ys) 0 C (if f = true then 0 else -1) := by
  constructor
  · intro q
    cases f with
    | true => rw [if_pos rfl] at q; omega
    | false => exact ⟨if_neg (by decide), fun z => (by have := hf.2 z; cases this), fun k hk => by omega⟩
  · intro q
    cases f with
    | true => rw [if_pos rfl]; exact ⟨hf.1 rfl, .inl rfl, fun _ => Int.le_refl _, fun k hk => by omega⟩
    | false => rw [if_neg (by decide)] at q; omega
theorem Srch.skip {s : Int} {M : Pr → Prop} {c : Nat} {C : Nat → Option Pr} {b : Int} (x : Srch s M c C b) (h : C c = none) : Srch s M (c + 1) C b := by
  constructor
  · intro q
    obtain ⟨a1, a2, a3⟩ := x.none_ q
    refine ⟨a1, a2, fun k hk y hy => ?_⟩
    by_cases e : k = c
    · subst e; rw [h] at hy; cases hy
    · exact a3 k (by omega) y hy
  · intro q
    obtain ⟨a1, a2, a3, a4⟩ := x.some_ q
    refine ⟨a1, ?_, a3, fun k hk y hy => ?_⟩
    · rcases a2 with a2 | ⟨k, hk, y, hy, e⟩
      · exact .inl a2
      · exact .inr ⟨k, by omega, y, hy, e⟩
    · by_cases e : k = c
      · subst e; rw [h] at hy; cases hy
      · exact a4 k (by omega) y hy
theorem Srch.step {s : Int} {ys : List Pr} {c : Nat} {C : Nat → Option Pr} {b : Int} (x : Srch s (· ∈ ys) c C b) {y : Pr} (h : C c = some y) (h0 : 0 ≤ y.1 + y.2) {f : Bool} (hf : f = true ↔ FreeP s ys (y.1 + y.2)) : Srch s (· ∈ ys) (c + 1) C (if f = true ∧ (b < 0 ∨ y.1 + y.2 < b) then y.1 + y.2 else b) := by
  by_cases q : f = true ∧ (b < 0 ∨ y.1 + y.2 < b)
  · rw [if_pos q]
    obtain ⟨q1, q2⟩ := q
    refine ⟨fun q => by omega, fun _ => ⟨hf.1 q1, .inr ⟨c, by omega, y, h, rfl⟩, fun z => ?_, fun k hk z hz fz => ?_⟩⟩
    · rcases q2 with q2 | q2
      · exact absurd z (x.none_ q2).2.1
      · by_cases b0 : 0 ≤ b
        · have := (x.some_ b0).2.2.1 z; omega
        · omega
    · by_cases e : k = c
      · subst e; rw [h] at hz; injection hz with hz; subst hz; exact Int.le_refl _
      · rcases q2 with q2 | q2
        · exact absurd fz ((x.none_ q2).2.2 k (by omega) z hz)
        · by_cases b0 : 0 ≤ b
          · have := (x.some_ b0).2.2.2 k (by omega) z hz fz; omega
          · omega
  · rw [if_neg q]
    constructor
    · intro b0
      obtain ⟨a1, a2, a3⟩ := x.none_ b0
      refine ⟨a1, a2, fun k hk z hz fz => ?_⟩
      by_cases e : k = c
      · subst e; rw [h] at hz; injection hz with hz; subst hz
        exact q ⟨hf.2 fz, .inl b0⟩
      · exact a3 k (by omega) z hz fz
    · intro b0
      obtain ⟨a1, a2, a3, a4⟩ := x.some_ b0
      refine ⟨a1, ?_, a3, fun k hk z hz fz => ?_⟩
      · rcases a2 with a2 | ⟨k, hk, w, hw, e⟩
        · exact .inl a2
        · exact .inr ⟨k, by omega, w, hw, e⟩
      · by_cases e : k = c
        · subst e; rw [h] at hz; injection hz with hz; subst hz
          have : ¬ (b < 0 ∨ y.1 + y.2 < b) := fun w => q ⟨hf.2 fz, w⟩
          omega
        · exact a4 k (by omega) z hz fz
noncomputable def b29T : IR := .seq (.reg ir29_r9) (.seq (.seq (.reg ir29_r10) (.block 2 (.loop ir29_l2))) (.seq (.reg ir29_r15) (.cond (.t 90) (.reg ir29_r16) .skip)))
/-- what base reads -/
structure Bs (h : Hp) (m : Nat) (A B C : Option Addr) (J : Nat → Option Addr × Nat) (nb : Nat → Nat → Bool) (l : List Pr) (plc : List Bool) : Prop where
  reg : Tab h 2 A m (l.map pc)
  pl : Tab h 1 B m (plc.map fun b => [Value.bool b])
  nr : NearAt h C m J nb
  sm : m ≤ 1000000
  bnd : ∀ i, i < m → 0 ≤ (regAt l i).1 ∧ 0 ≤ (regAt l i).2 ∧ (regAt l i).1 + (regAt l i).2 ≤ 100000000000
def candR (l : List Pr) (plc : List Bool) (nb : Nat → Nat → Bool) (a : Nat) (k : Nat) : Option Pr := if (plc.getD k false && nb a k) = true then some (regAt l k) else none
namespace Bs
variable {h : Hp} {m : Nat} {A B C : Option Addr} {J : Nat → Option Addr × Nat} {nb : Nat → Nat → Bool} {l : List Pr} {plc : List Bool}
theorem ll (b : Bs h m A B C J nb l plc) : l.length = m := by simpa using b.reg.len
theorem pll (b : Bs h m A B C J nb l plc) : plc.length = m := by simpa using b.pl.len
theorem regRow (b : Bs h m A B C J nb l plc) {g : Addr} (hg : A = some g) {i : Nat} (hi : i < m) : ∀ j v, (pc (regAt l i))[j]? = some v → h.cell? ((g.add ((i : Int).toNat * 2)).add j) = some v := fun j v hv => by
  rw [Int.toNat_natCast]
  refine b.reg.row hg (i := i) ?_ j v hv
  have := b.ll
  rw [List.getElem?_map, List.getElem?_eq_getElem (by omega)]
  unfold regAt
  rw [List.getD_eq_getElem?_getD, List.getElem?_eq_getElem (by omega)]
  rfl
theorem plRow (b : Bs h m A B C J nb l plc) {g : Addr} (hg : B = some g) {i : Nat} (hi : i < m) : h.cell? (g.add ((i : Int).toNat * 1)) = some (.bool (plc.getD i false)) := by
  rw [Int.toNat_natCast]
  refine b.pl.one hg (i := i) (r := [.bool (plc.getD i false)]) ?_ rfl
  have := b.pll
  rw [List.getElem?_map, List.getElem?_eq_getElem (by omega), List.getD_eq_getElem?_getD, List.getElem?_eq_getElem (by omega)]
  rfl
theorem nrRow (b : Bs h m A B C J nb l plc) {g : Addr} (hg : C = some g) {i : Nat} (hi : i < m) : h.cell? (g.add ((i : Int).toNat * 1)) = some (.slice (J i).1 m (J i).2) := by
  rw [Int.toNat_natCast]
  exact b.nr.outer.one hg (i := i) (r := [.slice (J i).1 m (J i).2]) (by rw [List.getElem?_map, List.getElem?_range hi]; rfl) rfl
theorem nbRow (b : Bs h m A B C J nb l plc) {i : Nat} (hi : i < m) {g : Addr} (hg : (J i).1 = some g) {j : Nat} (hj : j < m) : h.cell? (g.add ((j : Int).toNat * 1)) = some (.bool (nb i j)) := by
  rw [Int.toNat_natCast]
  exact (b.nr.inner i hi).one hg (i := j) (r := [.bool (nb i j)]) (by rw [List.getElem?_map, List.getElem?_range hj]; rfl) rfl
end Bs
theorem b29_tail (Q : Post) (e : Env) {h : Hp} {m ca cb cc a : Nat} {A B C : Option Addr} {J : Nat → Option Addr × Nat} {nb : Nat → Nat → Bool} {l : List Pr} {plc : List Bool} (b : Bs h m A B C J nb l plc) (ha : a < m) (best c at_ : Int) (h0 : 0 ≤ at_) (h1 : at_ ≤ 100000000000) (ys : List Pr) (hC : ∀ y, y ∈ ys ↔ ∃ k, k < m ∧ candR l plc nb a k = some y)
    (he : [0, 1, 2, 3, 9, 10, 11].map e = [.v (.slice A m ca), .v (.slice B m cb), .v (.slice C m cc), .v (iv a), .v (iv best), .v (iv c), .v (iv at_)])
    (hQ : ∀ (e : Env) (f : Bool), (f = true ↔ FreeP (regAt l a).2 ys at_) → [0, 1, 2, 3, 9, 10].map e = [.v (.slice A m ca), .v (.slice B m cb), .v (.slice C m cc), .v (iv a), .v (iv (if f = true ∧ (best < 0 ∨ at_ < best) then at_ else best)), .v (iv c)] → Q .normal e [] h) : wpIR Tryz.prog 93 b29T Q e [] h := by
  have hself := updL_self [0, 1, 2, 3, 9, 10, 11] e
  rw [he] at hself
  rw [← hself]
  have hsm := b.sm
  obtain ⟨gA, hgA⟩ := b.reg.ad (by omega)
  obtain ⟨gB, hgB⟩ := b.pl.ad (by omega)
  obtain ⟨gC, hgC⟩ := b.nr.outer.ad (by omega)
  obtain ⟨gJ, hgJ⟩ := (b.nr.inner a ha).ad (by omega)
  conv => whnf
  refine .mk (Nat × Bool) [0, 1, 2, 3, 9, 10, 11, 12, 13] (fun (t, f) => [.v (.slice A m ca), .v (.slice B m cb), .v (.slice C m cc), .v (iv a), .v (iv best), .v (iv c), .v (iv at_), .v (.bool f), .v (iv t)]) (fun _ => []) (fun (t, f) h' => h' = h ∧ t ≤ m ∧ (f = true ↔ ∀ k, k < t → ∀ y, candR l plc nb a k = some y → shareR (at_, (regAt l a).2) y = false)) (fun (t, _) => m - t) (0, true) (fun (_, _) => rfl) ⟨rfl, Nat.zero_le _, fun _ k hk => by omega, fun _ => rfl⟩ rfl rfl ?_
  rintro ⟨t, f⟩ e2 h2 ⟨rfl, ht, hf⟩
  conv => whnf
  refine br_dec (fun u => ?_) (fun u => ?_)
  · have ht' : t < m := by omega
    have hbt := b.bnd t ht'
    have hba := b.bnd a ha
    have cd : candR l plc nb a t = if (plc.getD t false && nb a t) = true then some (regAt l t) else none := rfl
    have nx : ∀ f' : Bool, (f' = true ↔ f = true ∧ ∀ y, candR l plc nb a t = some y → shareR (at_, (regAt l a).2) y = false) → (f' = true ↔ ∀ k, k < t + 1 → ∀ y, candR l plc nb a k = some y → shareR (at_, (regAt l a).2) y = false) := fun f' hf' => by
      rw [hf', hf]
      constructor
      · rintro ⟨p, q⟩ k hk y hy
        by_cases e : k = t
        · subst e; exact q y hy
        · exact p k (by omega) y hy
      · exact fun p => ⟨fun k hk => p k (by omega), p t (by omega)⟩
    conv => whnf
    refine .mk gB hgB (by omega) (by omega) ?_
    conv => whnf
    refine .hp _ (b.plRow hgB ht') ?_
    cases hp : plc.getD t false with
    | false =>
      rw [hp, Bool.false_and, if_neg (by decide)] at cd
      conv => whnf
      refine .ok (by omega) (by omega) ?_
      conv => whnf
      exact ⟨(t + 1, f), rfl, rfl, ⟨rfl, ht', nx f ⟨fun q => ⟨q, fun y hy => by rw [cd] at hy; cases hy⟩, fun q => q.1⟩⟩, by show m - (t + 1) < m - t; omega⟩
    | true =>
      rw [hp, Bool.true_and] at cd
      conv => whnf
      refine .mk gC hgC (by omega) (by omega) ?_
      conv => whnf
      refine .hp _ (b.nrRow hgC ha) ?_
      conv => whnf
      refine .mk gJ hgJ (by omega) (by omega) ?_
      conv => whnf
      refine .hp _ (b.nbRow ha hgJ ht') ?_
      cases hn : nb a t with
      | false =>
        rw [hn, if_neg (by decide)] at cd
        conv => whnf
        refine .ok (by omega) (by omega) ?_
        conv => whnf
        exact ⟨(t + 1, f), rfl, rfl, ⟨rfl, ht', nx f ⟨fun q => ⟨q, fun y hy => by rw [cd] at hy; cases hy⟩, fun q => q.1⟩⟩, by show m - (t + 1) < m - t; omega⟩
      | true =>
        rw [hn, if_pos rfl] at cd
        conv => whnf
        refine .mk gA hgA (by omega) (by omega) ?_
        conv => whnf
        refine .hp (pc (regAt l t)) rfl (b.regRow hgA ht') ?_
        conv => whnf
        refine .mk gA hgA (by omega) (by omega) ?_
        conv => whnf
        refine .hp (iv (regAt l a).2) (b.regRow hgA ha 1 _ rfl) ?_
        conv => whnf
        refine .mk _ (share36 (regAt l t) (at_, (regAt l a).2) h2 ⟨by omega, by omega, by omega, by omega⟩ ⟨by show -1000000000000 ≤ at_; omega, by show at_ ≤ 1000000000000; omega, by show -1000000000000 ≤ (regAt l a).2; omega, by show (regAt l a).2 ≤ 1000000000000; omega⟩) ?_ ?_
        · rintro _ _ ⟨rfl, rfl⟩; exact Hp.le_refl _
        rintro _ _ ⟨rfl, rfl⟩
        have hc := share_comm (regAt l t) (at_, (regAt l a).2)
        cases hs : shareR (regAt l t) (at_, (regAt l a).2) with
        | true =>
          rw [hs] at hc
          conv => whnf
          refine .ok (by omega) (by omega) ?_
          conv => whnf
          refine ⟨(t + 1, false), rfl, rfl, ⟨rfl, ht', nx false ⟨fun q => (by cases q), fun q => ?_⟩⟩, by show m - (t + 1) < m - t; omega⟩
          have := q.2 _ cd
          rw [← hc] at this; cases this
        | false =>
          rw [hs] at hc
          conv => whnf
          refine .ok (by omega) (by omega) ?_
          conv => whnf
          refine ⟨(t + 1, f), rfl, rfl, ⟨rfl, ht', nx f ⟨fun q => ⟨q, fun y hy => ?_⟩, fun q => q.1⟩⟩, by show m - (t + 1) < m - t; omega⟩
          rw [cd] at hy
          injection hy with hy
          subst hy
          exact hc.symm
  · have : t = m := by omega
    subst this
    have hfin : f = true ↔ FreeP (regAt l a).2 ys at_ := by
      rw [hf]
      exact ⟨fun p y hy => by obtain ⟨k, hk, hc⟩ := (hC y).1 hy; exact p k hk y hc, fun p k hk y hc => p y ((hC y).2 ⟨k, hk, hc⟩)⟩
    cases f with
    | false =>
      conv => whnf
      refine hQ _ false hfin ?_
      rw [if_neg (fun q => by cases q.1)]
      rfl
    | true =>
      conv => whnf
      refine br_dec (fun u1 => ?_) (fun u1 => ?_)
      · conv => whnf
        refine hQ _ true hfin ?_
        rw [if_pos ⟨rfl, .inl u1⟩]
        rfl
      · conv => whnf
        refine br_dec (fun u2 => ?_) (fun u2 => ?_)
        · conv => whnf
          refine hQ _ true hfin ?_
          rw [if_pos ⟨rfl, .inr u2⟩]
          rfl
        · conv => whnf
          refine hQ _ true hfin ?_
          rw [if_neg (fun q => by omega)]
          rfl
theorem base29 {h : Hp} {m ca cb cc a : Nat} {A B C : Option Addr} {J : Nat → Option Addr × Nat} {nb : Nat → Nat → Bool} {l : List Pr} {plc : List Bool} (b : Bs h m A B C J nb l plc) (ha : a < m) (ys : List Pr) (hC : ∀ y, y ∈ ys ↔ ∃ k, k < m ∧ candR l plc nb a k = some y) (ho : ys.Pairwise fun a b => Go.Proofs.ltOf cfB b a = false) :
    Fn Tryz.prog 29 #[.slice A m ca, .slice B m cb, .slice C m cc, iv a] h fun v h' => v = iv (foldB (regAt l a).2 ys).1 ∧ h' = h := by
  have hsm := b.sm
  have hpos : ∀ y ∈ ys, 0 ≤ y.1 ∧ 0 ≤ y.2 := fun y hy => by
    obtain ⟨k, hk, hc⟩ := (hC y).1 hy
    unfold candR at hc
    split at hc
    · injection hc with hc; subst hc
      have := b.bnd k hk
      exact ⟨this.1, this.2.1⟩
    · cases hc
  obtain ⟨gA, hgA⟩ := b.reg.ad (by omega)
  obtain ⟨gB, hgB⟩ := b.pl.ad (by omega)
  obtain ⟨gC, hgC⟩ := b.nr.outer.ad (by omega)
  obtain ⟨gJ, hgJ⟩ := (b.nr.inner a ha).ad (by omega)
  refine Fn.intro (args := [.slice A m ca, .slice B m cb, .slice C m cc, iv a]) mix14 Tryz.func29 rfl (by decide) Tryz.ntmps29 rfl (low29 rfl) rfl ?_
  conv => whnf
  refine .mk (Int × Int) [0, 1, 2, 3, 9, 10] (fun (best, c) => [.v (.slice A m ca), .v (.slice B m cb), .v (.slice C m cc), .v (iv a), .v (iv best), .v (iv c)]) (fun _ => []) (fun (best, c) h' => h' = h ∧ ((best = -1 ∧ c = -1) ∨ (0 ≤ c ∧ c ≤ m ∧ Srch (regAt l a).2 (· ∈ ys) c.toNat (candR l plc nb a) best))) (fun (_, c) => (m - c).toNat) (-1, -1) (fun (_, _) => rfl) ⟨rfl, .inl ⟨rfl, rfl⟩⟩ rfl rfl ?_
  rintro ⟨best, c⟩ e h' ⟨rfl, hst⟩
  conv => whnf
  generalize hct : IR.seq (.reg ir29_r9) (.seq (.seq (.reg ir29_r10) (.block 2 (.loop ir29_l2))) (.seq (.reg ir29_r15) (.cond (.t 90) (.reg ir29_r16) .skip))) = ct
  refine br_dec (fun u => ?_) (fun u => ?_)
  · conv => whnf
    refine br_dec (fun u1 => ?_) (fun u1 => ?_)
    · rcases hst with ⟨_, hst⟩ | ⟨h0, hcm, hst⟩
      · omega
      obtain ⟨c, rfl⟩ := Int.eq_ofNat_of_zero_le h0
      rw [Int.toNat_natCast] at hst
      have hc' : c < m := by omega
      have hbc := b.bnd c hc'
      have cd : candR l plc nb a c = if (plc.getD c false && nb a c) = true then some (regAt l c) else none := rfl
      conv => whnf
      refine .mk gB hgB (by omega) (by omega) ?_
      conv => whnf
      refine .hp _ (b.plRow hgB hc') ?_
      cases hp : plc.getD c false with
      | false =>
        rw [hp, Bool.false_and, if_neg (by decide)] at cd
        conv => whnf
        refine .ok (by omega) (by omega) ?_
        conv => whnf
        exact ⟨(best, (c : Int) + 1), rfl, rfl, ⟨rfl, .inr ⟨by omega, by omega, by rw [show ((c : Int) + 1).toNat = c + 1 by omega]; exact hst.skip cd⟩⟩, by show ((m : Int) - ((c : Int) + 1)).toNat < ((m : Int) - (c : Int)).toNat; omega⟩
      | true =>
        rw [hp, Bool.true_and] at cd
        conv => whnf
        refine .mk gC hgC (by omega) (by omega) ?_
        conv => whnf
        refine .hp _ (b.nrRow hgC ha) ?_
        conv => whnf
        refine .mk gJ hgJ (by omega) (by omega) ?_
        conv => whnf
        refine .hp _ (b.nbRow ha hgJ hc') ?_
        cases hn : nb a c with
        | false =>
          rw [hn, if_neg (by decide)] at cd
          conv => whnf
          refine .ok (by omega) (by omega) ?_
          conv => whnf
          exact ⟨(best, (c : Int) + 1), rfl, rfl, ⟨rfl, .inr ⟨by omega, by omega, by rw [show ((c : Int) + 1).toNat = c + 1 by omega]; exact hst.skip cd⟩⟩, by show ((m : Int) - ((c : Int) + 1)).toNat < ((m : Int) - (c : Int)).toNat; omega⟩
        | true =>
          rw [hn, if_pos rfl] at cd
          conv => whnf
          refine .mk gA hgA (by omega) (by omega) ?_
          conv => whnf
          refine .hp (iv (regAt l c).1) (b.regRow hgA hc' 0 _ rfl) ?_
          conv => whnf
          refine .mk gA hgA (by omega) (by omega) ?_
          conv => whnf
          refine .hp (iv (regAt l c).2) (b.regRow hgA hc' 1 _ rfl) ?_
          conv => whnf
          refine .ok (by omega) (by omega) ?_
          conv => whnf
          show wpIR Tryz.prog 93 ct _ _ [] _
          subst hct
          show wpIR Tryz.prog 93 b29T _ _ [] _
          refine b29_tail _ _ b ha best c ((regAt l c).1 + (regAt l c).2) (by omega) (by omega) ys hC rfl fun e3 f hf he3 => ?_
          have hself := updL_self [0, 1, 2, 3, 9, 10] e3
          rw [he3] at hself
          rw [← hself]
          have st := hst.step cd (by omega) hf
          generalize (if f = true ∧ (best < 0 ∨ (regAt l c).1 + (regAt l c).2 < best) then (regAt l c).1 + (regAt l c).2 else best) = nb' at st
          conv => whnf
          refine .ok (by omega) (by omega) ?_
          conv => whnf
          exact ⟨(nb', (c : Int) + 1), rfl, rfl, ⟨rfl, .inr ⟨by omega, by omega, by rw [show ((c : Int) + 1).toNat = c + 1 by omega]; exact st⟩⟩, by show ((m : Int) - ((c : Int) + 1)).toNat < ((m : Int) - (c : Int)).toNat; omega⟩
    · rcases hst with ⟨hb, hc⟩ | ⟨h0, hcm, hst⟩
      · subst hb; subst hc
        show wpIR Tryz.prog 93 ct _ _ [] _
        subst hct
        show wpIR Tryz.prog 93 b29T _ _ [] _
        refine b29_tail _ _ b ha (-1) (-1) 0 (by omega) (by omega) ys hC rfl fun e3 f hf he3 => ?_
        have hself := updL_self [0, 1, 2, 3, 9, 10] e3
        rw [he3] at hself
        rw [← hself]
        have st := Srch.begin (C := candR l plc nb a) hf
        have e1 : (if f = true ∧ ((-1 : Int) < 0 ∨ (0 : Int) < -1) then (0 : Int) else -1) = if f = true then 0 else -1 := by
          cases f <;> simp
        rw [e1]
        generalize (if f = true then (0 : Int) else -1) = nb' at st
        conv => whnf
        refine .ok (by omega) (by omega) ?_
        conv => whnf
        exact ⟨(nb', 0), rfl, rfl, ⟨rfl, .inr ⟨by omega, by omega, st⟩⟩, by show ((m : Int) - 0).toNat < ((m : Int) - (-1)).toNat; omega⟩
      · omega
  · rcases hst with ⟨_, hst⟩ | ⟨h0, hcm, hst⟩
    · omega
    have : c.toNat = m := by omega
    rw [this] at hst
    conv => whnf
    refine .done ⟨?_, rfl⟩
    rw [hst.best hC ho hpos]
    rfl
/-- who is near, and placed -/
theorem cand_busy {ps : List Pr} {pk : List Int} {m : Nat} {os : List Nat} {regs : List Pr} {plc : List Bool} {k : Nat} (_r : Run ps pk m (os.take k) regs plc) (hp : os.Perm (List.range m)) (hps : ∀ p ∈ ps, 0 ≤ p.1 ∧ p.1 < p.2) {a : Nat} (hpl : ∀ i, plc.getD i false = true ↔ i ∈ os.take k) (_hn : a ∉ os.take k) (y : Pr) :
    y ∈ busyR (nearR ps a) regs plc ↔ ∃ q, q < m ∧ candR (docR pk (os.take k) regs m) plc (fun k j => pairedB ps k j) a q = some y := by
  have hm : ∀ i ∈ os.take k, i < m := fun i hi => List.mem_range.1 (hp.mem_iff.1 (List.mem_of_mem_take hi))
  constructor
  · intro hy
    obtain ⟨z, hz, hpz, rfl⟩ := busy_mem hy
    have hj := (hpl z.toNat).1 hpz
    have h0 : 0 ≤ z := by
      rcases nearV_mem hz with h | h
      · have := hps _ h; simp only at this; omega
      · have := hps _ h; simp only at this; omega
    have hz2 : ((z.toNat : Nat) : Int) = z := Int.toNat_of_nonneg h0
    refine ⟨z.toNat, hm _ hj, ?_⟩
    unfold candR
    have hcl : pairedB ps a z.toNat = true := (paired_cl hps).2 (by rcases nearV_mem hz with h | h; exact .inl (by rw [hz2]; exact h); exact .inr (by rw [hz2]; exact h))
    rw [hpz, if_pos (by rw [Bool.true_and]; exact hcl)]
    unfold regAt
    rw [docR_get (hm _ hj), if_pos hj]
    rfl
  · rintro ⟨q, hq, hc⟩
    unfold candR at hc
    split at hc
    · rename_i hcc
      rw [Bool.and_eq_true] at hcc
      injection hc with hc
      subst hc
      have hqo := (hpl q).1 hcc.1
      have hcl := (paired_cl hps).1 hcc.2
      have hne : (a : Int) ≠ (q : Int) := fun e => by
        rcases hcl with h | h
        · have := hps _ h; simp only at this; omega
        · have := hps _ h; simp only at this; omega
      refine List.mem_filterMap.2 ⟨(q : Int), nearV_of hne hcl, ?_⟩
      rw [Int.toNat_natCast, if_pos hcc.1]
      unfold regAt
      rw [docR_get hq, if_pos hqo]
      rfl
    · cases hc
end Go.Sx
namespace Go.Sx
open Go.Proofs Go.Sort
set_option maxRecDepth 100000
theorem RowAt.whole {h : Hp} {ety size n : Nat} {g : Addr} {xs : List Value} (x : RowAt h ety size (some g) n n xs) : ∃ b, g = ⟨b, 0, none⟩ ∧ h b = some (.cells xs.toArray ety (0, 0)) := by
  rcases x.2 with ⟨q, _⟩ | ⟨b, cur, q1, q2, _, _, q5, q6⟩
  · cases q
  · injection q1 with q1
    refine ⟨b, q1, ?_⟩
    have : cur.toList = xs := by
      rw [← q6, List.take_of_length_le (by rw [Array.length_toList]; omega)]
    rw [← this]
    simpa using q2
theorem set_snd : ∀ (l : List Pr) (i : Nat) (p : Int), i < l.length → ((l.map pc).flatten).set (i * 2 + 1) (iv p) = ((l.set i ((l.getD i (0, 0)).1, p)).map pc).flatten
  | [], i, p, h => by simp at h
  | x :: l, 0, p, _ => by
    show (iv x.1 :: iv x.2 :: (l.map pc).flatten).set 1 (iv p) = _
    rfl
  | x :: l, i + 1, p, h => by
    have ih := set_snd l i p (by simpa using h)
    rw [show (i + 1) * 2 + 1 = i * 2 + 1 + 1 + 1 by omega]
    show iv x.1 :: iv x.2 :: ((l.map pc).flatten).set (i * 2 + 1) (iv p) = iv x.1 :: iv x.2 :: ((l.set i ((l.getD i (0, 0)).1, p)).map pc).flatten
    rw [ih]
theorem set_fst : ∀ (l : List Pr) (i : Nat) (p : Int), i < l.length → ((l.map pc).flatten).set (i * 2) (iv p) = ((l.set i (p, (l.getD i (0, 0)).2)).map pc).flatten
  | [], i, p, h => by simp at h
  | x :: l, 0, p, _ => rfl
  | x :: l, i + 1, p, h => by
    have ih := set_fst l i p (by simpa using h)
    rw [show (i + 1) * 2 = i * 2 + 1 + 1 by omega]
    show iv x.1 :: iv x.2 :: ((l.map pc).flatten).set (i * 2) (iv p) = iv x.1 :: iv x.2 :: ((l.set i (p, (l.getD i (0, 0)).2)).map pc).flatten
    rw [ih]
def szR (pk : List Int) (m i : Nat) : List Pr := ((pk.take i).map fun z => ((0 : Int), z)) ++ List.replicate (m - i) (0, 0)
theorem szR_len {pk : List Int} {m i : Nat} (hl : pk.length = m) (hi : i ≤ m) : (szR pk m i).length = m := by simp [szR, List.length_take]; omega
theorem szR_step {pk : List Int} {m i : Nat} (hl : pk.length = m) (hi : i < m) : (szR pk m i).set i (((szR pk m i).getD i (0, 0)).1, pk.getD i 0) = szR pk m (i + 1) := by
  have hg : ((szR pk m i).getD i (0, 0)).1 = 0 := by
    unfold szR
    rw [List.getD_eq_getElem?_getD, List.getElem?_append_right (by simp [List.length_take]; omega), List.getElem?_replicate]
    split <;> rfl
  rw [hg]
  unfold szR
  have hli : ((pk.take i).map fun z => ((0 : Int), z)).length = i := by simp [List.length_take]; omega
  rw [List.set_append_right _ _ (by omega), hli, Nat.sub_self, show m - i = (m - (i + 1)) + 1 by omega, List.replicate_succ, List.set_cons_zero, List.take_add_one, List.getElem?_eq_getElem (by omega), List.map_append, List.append_assoc, List.getD_eq_getElem?_getD, List.getElem?_eq_getElem (by omega)]
  rfl
def nearC (J : Nat → Addr) (m i : Nat) : List Value := ((List.range i).map fun k => Value.slice (some (J k)) m m) ++ List.replicate (m - i) (.slice none 0 0)
theorem nearC_len {J : Nat → Addr} {m i : Nat} (hi : i ≤ m) : (nearC J m i).length = m := by simp [nearC]; omega
def upJ2 (J : Nat → Addr) (i : Nat) (g : Addr) : Nat → Addr := fun k => if k = i then g else J k
theorem nearC_step {J : Nat → Addr} {m i : Nat} (hi : i < m) (g : Addr) : (nearC J m i).set i (.slice (some g) m m) = nearC (upJ2 J i g) m (i + 1) := by
  unfold nearC
  rw [List.set_append_right _ _ (by simp), List.length_map, List.length_range, Nat.sub_self, show m - i = (m - (i + 1)) + 1 by omega, List.replicate_succ, List.set_cons_zero, List.range_succ, List.map_append, List.append_assoc]
  congr 1
  · refine List.map_congr_left fun k hk => ?_
    have := List.mem_range.1 hk
    unfold upJ2
    rw [if_neg (by omega)]
  · show _ = [Value.slice (some (upJ2 J i g i)) m m] ++ _
    unfold upJ2
    rw [if_pos rfl]; rfl
theorem nearC_get {J : Nat → Addr} {m i k : Nat} (hk : k < i) : (nearC J m i)[k]? = some (.slice (some (J k)) m m) := by
  unfold nearC
  rw [List.getElem?_append_left (by simpa using hk), List.getElem?_map, List.getElem?_range hk]; rfl
def rowB (ps : List Pr) (m i j : Nat) : List Value := ((List.range j).map fun k : Nat => Value.bool (pairedB ps i k)) ++ List.replicate (m - j) (.bool false)
theorem rowB_len {ps : List Pr} {m i j : Nat} (hj : j ≤ m) : (rowB ps m i j).length = m := by simp [rowB]; omega
theorem rowB_step {ps : List Pr} {m i j : Nat} (hj : j < m) : (rowB ps m i j).set j (.bool (pairedB ps i j)) = rowB ps m i (j + 1) := by
  unfold rowB
  rw [List.set_append_right _ _ (by simp), List.length_map, List.length_range, Nat.sub_self, List.range_succ, List.map_append, List.append_assoc]
  congr 1
  rw [show m - j = (m - (j + 1)) + 1 by omega, List.replicate_succ]
  rfl
theorem rowB_all (ps : List Pr) (m i : Nat) : rowB ps m i m = ((List.range m).map fun j : Nat => [Value.bool (pairedB ps i j)]).flatten := by
  unfold rowB
  rw [Nat.sub_self, List.replicate_zero, List.append_nil]
  generalize List.range m = l
  induction l with
  | nil => rfl
  | cons x l ih => rw [List.map_cons, List.map_cons, List.flatten_cons, ih]; rfl
theorem nearC_all (J : Nat → Addr) (m : Nat) : nearC J m m = ((List.range m).map fun i => [Value.slice (some (J i)) m m]).flatten := by
  unfold nearC
  rw [Nat.sub_self, List.replicate_zero, List.append_nil]
  generalize List.range m = l
  induction l with
  | nil => rfl
  | cons x l ih => rw [List.map_cons, List.map_cons, List.flatten_cons, ih]; rfl
/-- the regions and what is placed, in their blocks -/
def hD (H : Hp) (bl bp : Nat) (l : List Pr) (plc : List Bool) : Hp := (H.put bl (.cells ((l.map pc).flatten).toArray 37 (0, 0))).put bp (.cells (plc.map Value.bool).toArray 4 (0, 0))
theorem hD_p (H : Hp) (bl bp : Nat) (l : List Pr) (plc : List Bool) : hD H bl bp l plc bp = some (.cells (plc.map Value.bool).toArray 4 (0, 0)) := Hp.put_same _ _ _
theorem hD_l {H : Hp} {bl bp : Nat} (hne : bl ≠ bp) (l : List Pr) (plc : List Bool) : hD H bl bp l plc bl = some (.cells ((l.map pc).flatten).toArray 37 (0, 0)) := by
  unfold hD
  rw [Hp.put_ne _ _ hne, Hp.put_same]
theorem hD_setl {H : Hp} {bl bp : Nat} (hne : bl ≠ bp) (l l' : List Pr) (plc : List Bool) : (hD H bl bp l plc).put bl (.cells ((l'.map pc).flatten).toArray 37 (0, 0)) = hD H bl bp l' plc := by
  funext j
  unfold hD
  by_cases e1 : j = bl
  · subst e1
    rw [Hp.put_same, Hp.put_ne _ _ hne, Hp.put_same]
  · by_cases e2 : j = bp
    · subst e2
      rw [Hp.put_ne _ _ e1, Hp.put_same, Hp.put_same]
    · rw [Hp.put_ne _ _ e1, Hp.put_ne _ _ e2, Hp.put_ne _ _ e1, Hp.put_ne _ _ e2, Hp.put_ne _ _ e1]
theorem hD_setp {H : Hp} {bl bp : Nat} (l : List Pr) (plc plc' : List Bool) : (hD H bl bp l plc).put bp (.cells (plc'.map Value.bool).toArray 4 (0, 0)) = hD H bl bp l plc' := by
  unfold hD
  rw [Hp.put_put]
theorem hD_row_l {H : Hp} {bl bp m : Nat} (hne : bl ≠ bp) (l : List Pr) (plc : List Bool) (hl : l.length = m) (hm : m ≤ 1000000) : RowAt (hD H bl bp l plc) 37 2 (some ⟨bl, 0, none⟩) m m (l.map pc).flatten := by
  have hf : ((l.map pc).flatten).length = m * 2 := by
    rw [flat_wid (size := 2) _ (fun r hr => by obtain ⟨x, _, rfl⟩ := List.mem_map.1 hr; rfl), List.length_map, hl]
  refine ⟨hf, .inr ⟨bl, _, rfl, hD_l hne l plc, Nat.le_refl _, by simp only [maxLen]; omega, by simpa using hf, ?_⟩⟩
  rw [List.take_of_length_le (by simp only; omega)]
theorem hD_row_p {H : Hp} {bl bp m : Nat} (l : List Pr) (plc : List Bool) (hl : plc.length = m) (hm : m ≤ 1000000) : RowAt (hD H bl bp l plc) 4 1 (some ⟨bp, 0, none⟩) m m (plc.map Value.bool) := by
  refine ⟨by simp [hl], .inr ⟨bp, _, rfl, hD_p _ _ _ l plc, Nat.le_refl _, by simp only [maxLen]; omega, by simp [hl], ?_⟩⟩
  rw [List.take_of_length_le (by simp [hl])]
theorem flat_bools (l : List Bool) : l.map Value.bool = (l.map fun b => [Value.bool b]).flatten := by
  induction l with
  | nil => rfl
  | cons x l ih => rw [List.map_cons, List.map_cons, List.flatten_cons, ih]; rfl
def PlaceOkX (h : Hp) (N : Int) (arcs : List Arc) (zs : List Int) (R : List Nat → Prop) (v : Value) (h' : Hp) : Prop :=
  h.le h' ∧ (lookE N arcs zs ≠ 0 → v = .tuple #[regV none 0 0 0, iv (lookE N arcs zs)]) ∧
    (lookE N arcs zs = 0 → ∃ os regs plc, os.Perm (List.range arcs.length) ∧ R os ∧ Run (pairsR (along N arcs zs).2 arcs.length) (maxes (along N arcs zs).2) arcs.length os regs plc ∧
      (1024 < totalR regs → v = .tuple #[regV none 0 0 0, iv 5]) ∧ (totalR regs ≤ 1024 → ∃ A, v = .tuple #[regV (some A) arcs.length arcs.length (totalR regs), iv 0] ∧ RowAt h' 37 2 (some A) arcs.length arcs.length (regs.map pc).flatten ∧ h A.block = none))
end Go.Sx
