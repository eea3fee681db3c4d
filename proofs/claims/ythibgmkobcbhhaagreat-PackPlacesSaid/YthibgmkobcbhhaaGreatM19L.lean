/- Layer 19: the document's state of a net. Conditions: none. -/
import Derived.Test.YthibgmkobcbhhaaGreatN19L
import Derived.Test.YthibgmkobcbhhaaGreatM19K
namespace Go.Sx
open Go.Proofs
set_option maxRecDepth 100000
def refV (N : Nat) (A : Option Addr) (n cap : Nat) (F : Option Addr) (c : Nat) : Value := .agg #[iv N, .slice A n cap, .slice F N c]
theorem tok_bnd {N T : Nat} {arcs : List Arc} {f : List Int} (hs : chk N arcs = 0) (hg : Good N arcs f T) {a : Arc} (ha : a ∈ arcs) :
    0 ≤ a.give * f.getD a.src.toNat 0 ∧ a.give * f.getD a.src.toNat 0 ≤ 64 * T ∧ 0 ≤ a.take * f.getD a.dst.toNat 0 ∧ a.take * f.getD a.dst.toNat 0 ≤ 64 * T := by
  have hb := okArc_zero ((chk_zero hs).2.2.2 a ha)
  have h1 := hg.at a.src.toNat
  have h2 := hg.at a.dst.toNat
  obtain ⟨p0, p1⟩ := bnd_mul (x := a.give) (y := f.getD a.src.toNat 0) (a := 64) (b := T) (by omega) (by omega) h1.1 h1.2
  obtain ⟨p2, p3⟩ := bnd_mul (x := a.take) (y := f.getD a.dst.toNat 0) (a := 64) (b := T) (by omega) (by omega) h2.1 h2.2
  exact ⟨p0, p1, p2, p3⟩
theorem has49 {N n cap cF T : Nat} {arcs : List Arc} {f : List Int} {A F : Option Addr} {h : Hp} (hs : chk N arcs = 0) (ht : Tab h 5 A n (arcs.map Arc.cells)) (hF : Tab h 1 F N (f.map fun z => [iv z])) (hg : Good N arcs f T) (hT : T ≤ 70368744177664) {i : Nat} (hi : i < arcs.length) :
    Fn Tryz.prog 85 #[refV N A n cap F cF, iv i] h fun r h' => r = iv (tokOf f arcs[i]) ∧ h' = h := by
  have hlen : arcs.length = n := by simpa using ht.len
  have hm := List.getElem_mem hi
  have hb := okArc_zero ((chk_zero hs).2.2.2 _ hm)
  obtain ⟨b1, b2, b3, b4⟩ := tok_bnd hs hg hm
  have hsl : arcs[i].src.toNat < f.length := by rw [hg.len]; omega
  have hdl : arcs[i].dst.toNat < f.length := by rw [hg.len]; omega
  have e1 : f.getD arcs[i].src.toNat 0 = f[arcs[i].src.toNat] := by rw [List.getD_eq_getElem?_getD, List.getElem?_eq_getElem hsl]; rfl
  have e2 : f.getD arcs[i].dst.toNat 0 = f[arcs[i].dst.toNat] := by rw [List.getD_eq_getElem?_getD, List.getElem?_eq_getElem hdl]; rfl
  rw [tokOf, e1, e2]
  rw [e1] at b1 b2
  rw [e2] at b3 b4
  obtain ⟨g, hgA⟩ := ht.ad (by omega)
  obtain ⟨g2, hgF⟩ := hF.ad (by have := (chk_zero hs).1; omega)
  refine Fn.intro (args := [refV N A n cap F cF, iv i]) mix14 Tryz.func85 rfl (by decide) Tryz.ntmps85 rfl (low85 rfl) rfl ?_
  conv => whnf
  refine .mk g hgA (by omega) (by omega) ?_
  conv => whnf
  refine .hp arcs[i].cells rfl (by rw [Int.toNat_natCast]; exact ht.row hgA (map_get hi)) ?_
  conv => whnf
  refine .mk g2 hgF (by omega) (by omega) ?_
  conv => whnf
  refine .hp (iv f[arcs[i].src.toNat]) (hF.one hgF (r := [iv f[arcs[i].src.toNat]]) (by simp [hsl]) rfl) ?_
  conv => whnf
  refine .ok (by omega) (by omega) ?_
  conv => whnf
  refine .ok (by omega) (by omega) ?_
  conv => whnf
  refine .mk g2 hgF (by omega) (by omega) ?_
  conv => whnf
  refine .hp (iv f[arcs[i].dst.toNat]) (hF.one hgF (r := [iv f[arcs[i].dst.toNat]]) (by simp [hdl]) rfl) ?_
  conv => whnf
  refine .ok (by omega) (by omega) ?_
  conv => whnf
  refine .ok (by omega) (by omega) ?_
  conv => whnf
  exact .done ⟨rfl, rfl⟩
theorem short50 {N n cap cF T : Nat} {arcs : List Arc} {f : List Int} {A F : Option Addr} {h : Hp} (hs : chk N arcs = 0) (ht : Tab h 5 A n (arcs.map Arc.cells)) (hF : Tab h 1 F N (f.map fun z => [iv z])) (hg : Good N arcs f T) (hT : T ≤ 70368744177664) (v : Int) :
    Fn Tryz.prog 86 #[refV N A n cap F cF, iv v] h fun r h' => (∃ k : Int, r = iv k ∧ (k < 0 ↔ ∀ a ∈ arcs, a.dst = v → a.take ≤ tokOf f a)) ∧ h' = h := by
  have hlen : arcs.length = n := by simpa using ht.len
  have hsz := (chk_zero hs).2.2.1
  refine Fn.intro (args := [refV N A n cap F cF, iv v]) mix14 Tryz.func86 rfl (by decide) Tryz.ntmps86 rfl (low86 rfl) rfl ?_
  conv => whnf
  refine .mk Nat [1, 2, 5] (fun k => [.v (iv v), .p 0 0, .v (iv k)]) (fun _ => [.own [.v (iv N), .v (.slice A n cap), .v (.slice F N cF)] 113]) (fun k h' => h' = h ∧ k ≤ n ∧ ∀ i (hi : i < arcs.length), i < k → arcs[i].dst = v → arcs[i].take ≤ tokOf f arcs[i]) (fun k => n - k) 0 (fun _ => rfl)
    ⟨rfl, Nat.zero_le _, fun i _ hi => absurd hi (Nat.not_lt_zero i)⟩ rfl rfl ?_
  rintro k e h' ⟨rfl, hk, hall⟩
  conv => whnf
  refine br_dec (fun h1 => ?_) (fun h1 => ?_)
  · have hi : k < arcs.length := by omega
    have hb := okArc_zero ((chk_zero hs).2.2.2 _ (List.getElem_mem hi))
    obtain ⟨g, hgA⟩ := ht.ad (by omega)
    have next : (arcs[k].dst = v → arcs[k].take ≤ tokOf f arcs[k]) → ∀ i (hi : i < arcs.length), i < k + 1 → arcs[i].dst = v → arcs[i].take ≤ tokOf f arcs[i] := fun hk i hi hik hd => by
      by_cases e : i = k
      · subst e; exact hk hd
      · exact hall i hi (by omega) hd
    conv => whnf
    refine .mk g hgA (by omega) (by omega) ?_
    conv => whnf
    refine .hp (iv arcs[k].dst) (by rw [Int.toNat_natCast, add_add]; exact ht.cell g hgA k _ (map_get hi) 1 _ rfl) ?_
    conv => whnf
    refine br_dec (fun h2 => ?_) (fun h2 => ?_)
    · conv => whnf
      refine .mk g hgA (by omega) (by omega) ?_
      conv => whnf
      refine .hp (iv arcs[k].take) (by rw [Int.toNat_natCast, add_add]; exact ht.cell g hgA k _ (map_get hi) 3 _ rfl) ?_
      conv => whnf
      refine .mk _ (has49 hs ht hF hg hT hi) (fun _ _ q => by rw [q.2]; exact Hp.le_refl _) ?_
      rintro _ _ ⟨rfl, rfl⟩
      conv => whnf
      refine br_dec (fun h3 => ?_) (fun h3 => ?_)
      · conv => whnf
        refine .done ⟨⟨k, rfl, ⟨fun q => by omega, fun q => ?_⟩⟩, rfl⟩
        have := q _ (List.getElem_mem hi) h2
        omega
      · conv => whnf
        refine .ok (by omega) (by omega) ?_
        conv => whnf
        exact ⟨k + 1, rfl, rfl, ⟨rfl, by omega, next fun _ => by omega⟩, by omega⟩
    · conv => whnf
      refine .ok (by omega) (by omega) ?_
      conv => whnf
      exact ⟨k + 1, rfl, rfl, ⟨rfl, by omega, next fun q => absurd q h2⟩, by omega⟩
  · conv => whnf
    refine .done ⟨⟨-1, rfl, ⟨fun _ a ha hd => ?_, fun _ => by decide⟩⟩, rfl⟩
    obtain ⟨i, hi, rfl⟩ := List.getElem_of_mem ha
    exact hall i hi (by omega) hd
theorem may34 {N n cap cF T : Nat} {arcs : List Arc} {f : List Int} {A F : Option Addr} {h : Hp} (hs : chk N arcs = 0) (ht : Tab h 5 A n (arcs.map Arc.cells)) (hF : Tab h 1 F N (f.map fun z => [iv z])) (hg : Good N arcs f T) (hT : T ≤ 70368744177664) (v : Int) :
    Fn Tryz.prog 69 #[refV N A n cap F cF, iv v] h fun r h' => r = .bool (may N arcs f v) ∧ h' = h := by
  refine Fn.intro (args := [refV N A n cap F cF, iv v]) mix14 Tryz.func69 rfl (by decide) Tryz.ntmps69 rfl (low69 rfl) rfl ?_
  conv => whnf
  refine .done (.mk _ (node27 N v A n cap h) ?_)
  rintro _ _ ⟨rfl, rfl⟩
  cases hv : okNode N v with
  | false =>
    conv => whnf
    refine .done ⟨?_, rfl⟩
    have : may N arcs f v = false := by unfold may mayB; rw [hv]; rfl
    rw [this]; rfl
  | true =>
    obtain ⟨u, rfl⟩ : ∃ u : Nat, v = u := by
      have := (okNode_iff N v).1 hv
      exact ⟨v.toNat, by omega⟩
    have huN : u < N := by have := (okNode_iff N (u : Int)).1 hv; omega
    conv => whnf
    refine .done (.mk _ (short50 hs ht hF hg hT (u : Int)) ?_)
    rintro _ _ ⟨⟨k, rfl, hk⟩, rfl⟩
    conv => whnf
    refine .done ⟨?_, rfl⟩
    have : may N arcs f u = decide (k < 0) := by
      rw [Bool.eq_iff_iff, may_iff, decide_eq_true_eq, hk]
      exact ⟨fun q => q.2, fun q => ⟨huN, q⟩⟩
    rw [this]; rfl
end Go.Sx
namespace Go.Sx
open Go.Proofs
set_option maxRecDepth 100000
def fillL (l : List Int) (k : Nat) : List Int := l.take k ++ List.replicate (l.length - k) 0
theorem fillL_zero (l : List Int) : (fillL l 0).map iv = List.replicate l.length (iv 0) := by simp [fillL]
theorem fillL_all (l : List Int) : fillL l l.length = l := by simp [fillL]
theorem fillL_len (l : List Int) (k : Nat) (hk : k ≤ l.length) : (fillL l k).length = l.length := by simp [fillL]; omega
theorem fillL_step {l : List Int} {k : Nat} (hk : k < l.length) : (fillL l k).set k l[k] = fillL l (k + 1) := by
  unfold fillL
  have h1 : (l.take k).length = k := by simp; omega
  rw [List.set_append_right _ _ (by omega), h1, Nat.sub_self, show l.length - k = (l.length - (k + 1)) + 1 by omega, List.replicate_succ, List.set_cons_zero, take_succ' hk, List.append_assoc]
  rfl
theorem counts33 {N n cap cF T : Nat} {arcs : List Arc} {f : List Int} {A F : Option Addr} {h : Hp} (hs : chk N arcs = 0) (ht : Tab h 5 A n (arcs.map Arc.cells)) (hF : Tab h 1 F N (f.map fun z => [iv z])) (hg : Good N arcs f T) (hT : T ≤ 70368744177664) :
    Fn Tryz.prog 68 #[refV N A n cap F cF] h fun r h' => ∃ g, r = .slice (some g) n n ∧ h.le h' ∧ RowAt h' 3 1 (some g) n n ((toksOf arcs f).map iv) ∧ h g.block = none := by
  obtain rfl : arcs.length = n := by simpa using ht.len
  have hsz := (chk_zero hs).2.2.1
  have htl := toksOf_len arcs f
  refine Fn.intro (args := [refV N A arcs.length cap F cF]) mix14 Tryz.func68 rfl (by decide) Tryz.ntmps68 rfl (low68 rfl) rfl ?_
  conv => whnf
  refine EvMake.one arcs.length (iv 0) rfl rfl rfl rfl (by omega) (by omega) fun g => ?_
  rw [show List.replicate arcs.length (iv 0) = (fillL (toksOf arcs f) 0).map iv by rw [fillL_zero, htl]]
  conv => whnf
  refine .mk Nat [1, 3, 4] (fun k => [.p 0 0, .v (.slice (some g) arcs.length arcs.length), .v (iv k)]) (fun k => [.own [.v (iv N), .v (.slice A arcs.length cap), .v (.slice F N cF)] 113, .row 3 1 (some g) arcs.length arcs.length ((fillL (toksOf arcs f) k).map iv)])
    (fun k h' => h' = h ∧ k ≤ arcs.length) (fun k => arcs.length - k) 0 (fun _ => rfl) ⟨rfl, Nat.zero_le _⟩ rfl rfl ?_
  rintro k e h' ⟨rfl, hk⟩
  conv => whnf
  refine br_dec (fun h1 => ?_) (fun h1 => ?_)
  · have hi : k < arcs.length := by omega
    have hst := fillL_step (l := toksOf arcs f) (k := k) (by omega)
    rw [show (toksOf arcs f)[k]'(by omega) = tokOf f arcs[k] by simp [toksOf]] at hst
    conv => whnf
    refine .done (.mk _ (has49 hs ht hF hg hT hi) ?_)
    rintro _ _ ⟨rfl, rfl⟩
    conv => whnf
    refine .mk g rfl (by omega) (by omega) ?_
    conv => whnf
    refine .row 1 3 1 g arcs.length arcs.length _ _ k rfl (by rw [Int.toNat_natCast, Nat.mul_one]) (over_one _ _ _ (by simp only [List.length_map, fillL_len (toksOf arcs f) k (by omega)]; omega)) ?_
    conv => whnf
    refine .ok (by omega) (by omega) ?_
    conv => whnf
    refine ⟨k + 1, rfl, ?_, ⟨rfl, hi⟩, by omega⟩
    rw [← hst, List.map_set]
    rfl
  · obtain rfl : k = arcs.length := by omega
    conv => whnf
    refine .pub 1 3 1 (some g) arcs.length arcs.length _ rfl fun h2 hle hr hf => .done ⟨g, rfl, hle, ?_, hf g rfl⟩
    have hr : RowAt h2 3 1 (some g) arcs.length arcs.length ((fillL (toksOf arcs f) arcs.length).map iv) := hr
    rwa [← htl, fillL_all, htl] at hr
theorem start32 {N n cap : Nat} {arcs : List Arc} {A : Option Addr} {h : Hp} (hs : chk N arcs = 0) :
    Fn Tryz.prog 67 #[netV N A n cap] h fun r h' => ∃ g, r = refV N A n cap (some g) N ∧ h.le h' ∧ RowAt h' 3 1 (some g) N N ((List.replicate N (0 : Int)).map iv) ∧ h g.block = none := by
  have hN := (chk_zero hs).2.1
  refine Fn.intro (args := [netV N A n cap]) mix14 Tryz.func67 rfl (by decide) Tryz.ntmps67 rfl (low67 rfl) rfl ?_
  conv => whnf
  refine EvMake.one N (iv 0) rfl rfl rfl rfl (by omega) (by omega) fun g => ?_
  conv => whnf
  refine .pub 2 3 1 (some g) N N _ rfl fun h2 hle hr hf => .done ⟨g, rfl, hle, ?_, hf g rfl⟩
  rw [List.map_replicate]; exact hr
theorem fire35 {N n cap T : Nat} {arcs : List Arc} {f : List Int} {A D : Option Addr} {gF : Addr} {h : Hp} (hs : chk N arcs = 0) (ht : Tab (h.del gF.block) 5 A n (arcs.map Arc.cells)) (hF : RowAt h 3 1 (some gF) N N (f.map iv)) (hg : Good N arcs f T) (hT : T ≤ 70368744177664) (v : Int)
    (hz : Tab (h.del gF.block) 1 D 1 ([v].map fun z => [iv z])) (c : Nat) (hm : may N arcs f v = true) :
    Fn Tryz.prog 70 #[refV N A n cap (some gF) N, .slice D 1 c] h fun _ h' => (h.del gF.block).le h' ∧ RowAt h' 3 1 (some gF) N N ((bump f v.toNat).map iv) := by
  obtain ⟨u, rfl, huN⟩ := may_out hm
  have hdl := Hp.del_le h gF.block
  obtain ⟨g1, hg1⟩ := hz.ad (by decide)
  have hul : u < f.length := by rw [hg.len]; exact huN
  have hub := hg.at u
  have hgu : f.getD u 0 = f[u] := by rw [List.getD_eq_getElem?_getD, List.getElem?_eq_getElem hul]; rfl
  rw [hgu] at hub
  refine Fn.intro (args := [refV N A n cap (some gF) N, .slice D 1 c]) mix14 Tryz.func70 rfl (by decide) Tryz.ntmps70 rfl (low70 rfl) rfl ?_
  conv => whnf
  refine .mk Nat [1, 2, 5] (fun k => [.v (.slice D 1 c), .p 0 0, .v (iv k)]) (fun _ => [.own [.v (iv N), .v (.slice A n cap), .v (.slice (some gF) N N)] 113])
    (fun k h' => (k = 0 ∧ h' = h) ∨ (k = 1 ∧ (h.del gF.block).le h' ∧ RowAt h' 3 1 (some gF) N N ((bump f u).map iv))) (fun k => 1 - k) 0 (fun _ => rfl) (.inl ⟨rfl, rfl⟩) rfl rfl ?_
  rintro k e h' hinv
  rcases hinv with ⟨rfl, rfl⟩ | ⟨rfl, hl, hr⟩
  · conv => whnf
    refine .mk g1 hg1 (by omega) (by omega) ?_
    conv => whnf
    refine .hp (iv u) ((hz.mono hdl).one hg1 (i := 0) (r := [iv u]) rfl rfl) ?_
    conv => whnf
    refine .mk _ (may34 hs (ht.mono hdl) hF.one hg hT (u : Int)) (fun _ _ q => by rw [q.2]; exact Hp.le_refl _) ?_
    rintro _ _ ⟨rfl, rfl⟩
    rw [hm]
    conv => whnf
    refine .mk g1 hg1 (by omega) (by omega) ?_
    conv => whnf
    refine .hp (iv u) ((hz.mono hdl).one hg1 (i := 0) (r := [iv u]) rfl rfl) ?_
    conv => whnf
    refine .mk g1 hg1 (by omega) (by omega) ?_
    conv => whnf
    refine .hp (iv u) ((hz.mono hdl).one hg1 (i := 0) (r := [iv u]) rfl rfl) ?_
    conv => whnf
    refine .mk gF rfl (by omega) (by omega) ?_
    conv => whnf
    refine .hp (iv f[u]) (by rw [Int.toNat_natCast]; exact hF.one.one rfl (r := [iv f[u]]) (by simp [hul]) rfl) ?_
    conv => whnf
    refine .ok (by omega) (by omega) ?_
    conv => whnf
    refine .mk gF rfl (by omega) (by omega) ?_
    conv => whnf
    obtain ⟨g3, cs, cs', e1, e2, e3, e4⟩ := hF.write (off := u) (by omega) (iv (f[u] + 1))
    injection e1 with e1
    subst e1
    refine .hp g3 u 3 cs cs' (by rw [Int.toNat_natCast, add_lit, Nat.mul_one, Nat.zero_add]) e2 e3 ?_
    conv => whnf
    refine .ok (by omega) (by omega) ?_
    conv => whnf
    refine ⟨1, rfl, rfl, .inr ⟨rfl, fun j o q => ?_, ?_⟩, by decide⟩
    · rw [Hp.put_ne _ _ (fun w => by subst w; rw [show (⟨j, 0, none⟩ : Addr).block = j from rfl, Hp.del_same] at q; cases q)]
      exact Hp.del_le _ _ j o q
    · rw [bump, hgu, List.map_set]; exact e4
  · conv => whnf
    exact .done ⟨hl, hr⟩
end Go.Sx
namespace Go.Sx
open Go.Proofs
set_option maxRecDepth 100000
/-- What the document's answer answers: an error, or rows to be read. -/
def RefOk (h : Hp) (N : Int) (arcs : List Arc) (zs : List Int) (r : Value) (h' : Hp) : Prop :=
  h.le h' ∧ ((along N arcs zs).1 ≠ 0 → r = .tuple #[.slice none 0 0, iv (along N arcs zs).1]) ∧ ((along N arcs zs).1 = 0 → ∃ B c J, r = .tuple #[.slice B (along N arcs zs).2.length c, iv 0] ∧ ListsAt h' B (along N arcs zs).2 J)
theorem inner_lists {h : Hp} {n : Nat} {rows : List (List Int)} {A : Option Addr} {c : Nat} {J : Nat → Addr × Nat} (ho : RowAt h 25 1 A rows.length c (rowCells n J rows.length)) (hi : ∀ i (hi : i < rows.length), RowAt h 3 1 (some (J i).1) n (J i).2 (rows[i].map iv)) : ListsAt h A rows fun i => (some (J i).1, (J i).2) := by
  have hl : ∀ i, i < rows.length → (rows.getD i []).length = n := fun i hk => by
    have := (hi i hk).1
    rw [List.getD_eq_getElem?_getD, List.getElem?_eq_getElem hk]
    simpa using this
  refine ⟨?_, fun i hk => ?_⟩
  · rw [rowCells_flat n J rows hl] at ho
    exact ho.tab (fun r hr => by obtain ⟨i, _, rfl⟩ := List.mem_map.1 hr; rfl) (by decide)
  · have := (hi i hk).one
    rw [hl i hk, List.getD_eq_getElem?_getD, List.getElem?_eq_getElem hk]
    exact this
theorem rowCells_add (n : Nat) (J : Nat → Addr × Nat) (k : Nat) (g : Addr) (c : Nat) : rowCells n J k ++ [.slice (some g) n c] = rowCells n (updJ J k (g, c)) (k + 1) := by
  simp only [rowCells, List.range_succ, List.map_append, List.map_cons, List.map_nil]
  congr 1
  · exact List.map_congr_left fun i hi => by
      have := List.mem_range.1 hi
      simp only [updJ]; rw [if_neg (by omega)]
  · simp [updJ]
/-- the state of the document's loop -/
structure Rf (h0 B h : Hp) (gF : Addr) (N n : Nat) (arcs : List Arc) (f : List Int) (k : Nat) (rows : List (List Int)) (J : Nat → Addr × Nat) : Prop where
  le : h0.le B
  none : B gF.block = none
  sub : B.le h
  row : RowAt h 3 1 (some gF) N N (f.map iv)
  good : Good N arcs f k
  inner : ∀ i (hi : i < rows.length), RowAt B 3 1 (some (J i).1) n (J i).2 (rows[i].map iv)
theorem Rf.add {h0 B h h' : Hp} {gF g : Addr} {N n k c : Nat} {arcs : List Arc} {f t : List Int} {rows : List (List Int)} {J : Nat → Addr × Nat} (r : Rf h0 B h gF N n arcs f k rows J) (hle : h.le h') (hr : RowAt h' 3 1 (some g) n c (t.map iv)) (hg : h g.block = .none) :
    Rf h0 (h'.del gF.block) h' gF N n arcs f k (rows ++ [t]) (updJ J rows.length (g, c)) := by
  have hB : B.le (h'.del gF.block) := fun j o e => by
    rw [Hp.del_ne _ (fun q => by subst q; rw [r.none] at e; cases e)]
    exact hle _ _ (r.sub _ _ e)
  have hne : g.block ≠ gF.block := fun q => r.row.mem rfl (by rw [← q]; exact hg)
  refine ⟨Hp.le_trans r.le hB, Hp.del_same _ _, Hp.del_le _ _, r.row.mono hle, r.good, fun i hi => ?_⟩
  by_cases e : i = rows.length
  · subst e
    simp only [updJ, if_true]
    have h3 : RowAt (h'.del gF.block) 3 1 (some g) n c (t.map iv) := hr.del (B := some gF) fun g1 g2 e1 e2 => by injection e1 with e1; injection e2 with e2; subst e1; subst e2; exact hne
    rw [List.getElem_append_right (Nat.le_refl _)]
    simpa using h3
  · have hi' : i < rows.length := by simp at hi; omega
    simp only [updJ, if_neg e]
    rw [List.getElem_append_left hi']
    exact (r.inner i hi').mono hB
theorem Rf.all {h0 B h : Hp} {gF : Addr} {N n k : Nat} {arcs : List Arc} {f : List Int} {rows : List (List Int)} {J : Nat → Addr × Nat} (r : Rf h0 B h gF N n arcs f k rows J) : h0.le h := Hp.le_trans r.le r.sub
theorem Rf.del {h0 B h : Hp} {gF : Addr} {N n k : Nat} {arcs : List Arc} {f : List Int} {rows : List (List Int)} {J : Nat → Addr × Nat} (r : Rf h0 B h gF N n arcs f k rows J) : B.le (h.del gF.block) := fun j o e => by
  rw [Hp.del_ne _ (fun q => by subst q; rw [r.none] at e; cases e)]
  exact r.sub _ _ e
theorem Rf.grow {h0 B h h' : Hp} {gF : Addr} {N n k : Nat} {arcs : List Arc} {f : List Int} {rows : List (List Int)} {J : Nat → Addr × Nat} (r : Rf h0 B h gF N n arcs f k rows J) (hle : h.le h') : Rf h0 B h' gF N n arcs f k rows J :=
  ⟨r.le, r.none, Hp.le_trans r.sub hle, r.row.mono hle, r.good, r.inner⟩
theorem along13 (N : Int) (n cap : Nat) (arcs : List Arc) (A D : Option Addr) (r cap2 : Nat) (zs : List Int) (h : Hp) (ht : Tab h 5 A n (arcs.map Arc.cells)) (hn : n ≤ 9223372036854775806) (hz : Tab h 1 D r (zs.map fun z => [iv z])) :
    Fn Tryz.prog 43 #[netV N A n cap, .slice D r cap2] h fun v h' => RefOk h N arcs zs v h' := by
  have hzl : zs.length = r := by simpa using hz.len
  obtain rfl : arcs.length = n := by simpa using ht.len
  refine Fn.intro (args := [netV N A arcs.length cap, .slice D r cap2]) mix14 Tryz.func43 rfl (by decide) Tryz.ntmps43 rfl (low43 rfl) rfl ?_
  conv => whnf
  refine .done (.mk _ (check20 N A arcs.length cap arcs h ht hn) ?_)
  rintro _ h0 ⟨rfl, rfl⟩
  conv => whnf
  refine br_dec (fun h1 => ?_) (fun h1 => ?_)
  · have hs : chk N arcs ≠ 0 := by simpa using h1
    conv => whnf
    refine .done ⟨Hp.le_refl _, fun _ => ?_, fun q => ?_⟩
    · rw [along_bad hs]; rfl
    · rw [along_bad hs] at q; exact absurd q hs
  have hs : chk N arcs = 0 := by simpa using h1
  have hNb := chk_zero hs
  obtain ⟨N, rfl⟩ : ∃ q : Nat, N = q := ⟨N.toNat, by omega⟩
  conv => whnf
  refine br_dec (fun h2 => ?_) (fun h2 => ?_)
  · conv => whnf
    refine .done ⟨Hp.le_refl _, fun _ => ?_, fun q => ?_⟩
    · rw [along_long hs (by omega)]; rfl
    · rw [along_long hs (by omega)] at q; cases q
  have hal := along_ok (zs := zs) hs (by omega)
  conv => whnf
  refine .done (.mk _ (start32 hs) ?_)
  rintro _ h2 ⟨gF, rfl, l2, rF, fF⟩
  have b2 : h0.le (h2.del gF.block) := fun j o e => by
    rw [Hp.del_ne _ (fun q => by subst q; rw [fF] at e; cases e)]
    exact l2 _ _ e
  have R0 : Rf h0 (h2.del gF.block) h2 gF N arcs.length arcs (List.replicate N 0) 0 [] (fun _ => (⟨0, 0, none⟩, 0)) := ⟨b2, Hp.del_same _ _, Hp.del_le _ _, rF, good_zero hs, fun i hi => by simp at hi⟩
  conv => whnf
  refine .done (.mk _ (counts33 hs (ht.mono l2) rF.one (good_zero hs) (by decide)) ?_)
  rintro _ h3 ⟨g3, rfl, l3, r3, f3⟩
  have R1 := R0.add l3 r3 f3
  conv => whnf
  refine .done (.fresh [.slice (some g3) arcs.length arcs.length] rfl rfl rfl rfl (by simp; rfl) (by simp [maxLen]) (by decide) fun A4 c4 _ => ?_)
  rw [show [Value.slice (some g3) arcs.length arcs.length] = rowCells arcs.length (updJ (fun _ => (⟨0, 0, none⟩, 0)) 0 (g3, arcs.length)) 1 from rowCells_add arcs.length (fun _ => (⟨0, 0, none⟩, 0)) 0 g3 arcs.length]
  conv => whnf
  refine .mkP [0, 1, 3] (Nat × Hp × Option Addr × Nat × List Int × List (List Int) × (Nat → Addr × Nat)) [1, 2, 7, 8, 9] (fun (k, _, A', c', _, _, _) => [.v (.slice D r cap2), .p 0 0, .p 1 0, .v (.slice A' (k + 1) c'), .v (iv k)])
    (fun (k, _, A', c', _, _, J) => [.own [.v (iv N), .v (.slice A arcs.length cap)] 24, .own [.v (iv N), .v (.slice A arcs.length cap), .v (.slice (some gF) N N)] 113, .row 25 1 A' (k + 1) c' (rowCells arcs.length J (k + 1))])
    (fun (k, B, _, _, f, rows, J) h' => Rf h0 B h' gF N arcs.length arcs f k rows J ∧ rows.length = k + 1 ∧ k ≤ r ∧ (alongR N arcs zs (List.replicate N 0)).1 = (alongR N arcs (zs.drop k) f).1 ∧
      toksOf arcs (List.replicate N 0) :: (alongR N arcs zs (List.replicate N 0)).2 = rows ++ (alongR N arcs (zs.drop k) f).2) (fun (k, _, _, _, _, _, _) => r - k)
    (0, h3.del gF.block, A4, c4, List.replicate N 0, [toksOf arcs (List.replicate N 0)], updJ (fun _ => (⟨0, 0, none⟩, 0)) 0 (g3, arcs.length)) (fun (_, _, _, _, _, _, _) => rfl) ⟨R1, rfl, Nat.zero_le _, rfl, rfl⟩ rfl rfl rfl ?_
  rintro ⟨k, B, A', c', f, rows, J⟩ e h' ⟨R, hrl, hk, hr1, hr2⟩
  conv => whnf
  refine br_dec (fun h4 => ?_) (fun h4 => ?_)
  · have hk' : k < r := by omega
    have hdrop : zs.drop k = zs[k] :: zs.drop (k + 1) := List.drop_eq_getElem_cons (by omega)
    obtain ⟨g, hg⟩ := hz.ad (by omega)
    have htB := ht.mono R.le
    have hzB := hz.mono R.le
    rw [hdrop, alongR] at hr1 hr2
    have bad : ∀ z : Int, z ≠ 0 → (alongR N arcs zs (List.replicate N 0)).1 = z → RefOk h0 N arcs zs (.tuple #[.slice none 0 0, iv z]) h' := fun z hz e => by
      refine ⟨R.all, fun _ => ?_, fun q => ?_⟩
      · rw [hal]; show _ = Value.tuple #[_, iv (alongR N arcs zs (List.replicate N 0)).1]; rw [e]
      · rw [hal] at q; exact absurd (e.symm.trans q) hz
    have load : ∀ hh : Hp, h0.le hh → hh.cell? (g.add ((k : Int).toNat * 1)) = some (iv zs[k]) := fun hh hl => by
      rw [Int.toNat_natCast]; exact (hz.mono hl).one hg (r := [iv zs[k]]) (by simp [hzl, hk']) rfl
    conv => whnf
    refine .mk g hg (by omega) (by omega) ?_
    conv => whnf
    refine .hp (iv zs[k]) (load _ R.all) ?_
    conv => whnf
    refine br_dec (fun h5 => ?_) (fun h5 => ?_)
    · rw [if_pos (.inl h5)] at hr1
      conv => whnf
      exact .done (bad 100 (by decide) hr1)
    conv => whnf
    refine .mk g hg (by omega) (by omega) ?_
    conv => whnf
    refine .hp (iv zs[k]) (load _ R.all) ?_
    conv => whnf
    refine br_dec (fun h6 => ?_) (fun h6 => ?_)
    · rw [if_pos (.inr h6)] at hr1
      conv => whnf
      exact .done (bad 100 (by decide) hr1)
    rw [if_neg (by omega)] at hr1 hr2
    conv => whnf
    refine .mk g hg (by omega) (by omega) ?_
    conv => whnf
    refine .hp (iv zs[k]) (load _ R.all) ?_
    conv => whnf
    refine .mk _ (may34 hs (htB.mono R.sub) R.row.one R.good (by omega) zs[k]) (fun _ _ q => by rw [q.2]; exact Hp.le_refl _) ?_
    rintro _ h' ⟨rfl, rfl⟩
    cases hm : may N arcs f zs[k] with
    | false =>
      rw [hm, if_neg (by simp)] at hr1
      conv => whnf
      exact .done (bad 180 (by decide) hr1)
    | true =>
    rw [hm, if_pos rfl] at hr1 hr2
    conv => whnf
    refine .mk g hg (by omega) (by omega) ?_
    conv => whnf
    refine .hp (iv zs[k]) (load _ R.all) ?_
    conv => whnf
    refine .mk fun bk hbk => ?_
    have Rg := R.grow (Hp.le_put (o := .cells #[iv zs[k]] 3 (0, 0)) hbk)
    have hne : bk ≠ gF.block := fun q => R.row.mem rfl (by rw [← q]; exact hbk)
    conv => whnf
    have hlit : Tab ((Hp.put h' bk (.cells #[iv zs[k]] 3 (0, 0))).del gF.block) 1 (some ⟨bk, 0, none⟩) 1 ([zs[k]].map fun z => [iv z]) := litNums (l := [zs[k]]) (by rw [Hp.del_ne _ hne]; exact put_at) rfl
    refine .done (.mk _ (fire35 hs (htB.mono Rg.del) Rg.row Rg.good (by omega) zs[k] hlit 1 hm) ?_)
    rintro _ h5 ⟨l5, r5⟩
    obtain ⟨u, hu, huN⟩ := may_out hm
    have gb : Good N arcs (bump f zs[k].toNat) (k + 1) := by rw [hu] at hm ⊢; exact R.good.bump hs hm
    have R5 : Rf h0 B h5 gF N arcs.length arcs (bump f zs[k].toNat) (k + 1) rows J := ⟨R.le, R.none, Hp.le_trans Rg.del l5, r5, gb, R.inner⟩
    conv => whnf
    refine .done (.mk _ (counts33 hs (htB.mono R5.sub) r5.one gb (by omega)) ?_)
    rintro _ h6 ⟨g6, rfl, l6, r6, f6⟩
    have R6 := R5.add l6 r6 f6
    conv => whnf
    refine .done (.old 2 _ [.slice (some g6) arcs.length arcs.length] rfl rfl (by simp; rfl) (by simp [maxLen]; omega) (by omega) fun A7 c7 _ => ?_)
    rw [rowCells_add]
    conv => whnf
    refine .ok (by omega) (by omega) ?_
    conv => whnf
    rw [hrl] at R6
    refine ⟨(k + 1, h6.del gF.block, A7, c7, bump f zs[k].toNat, rows ++ [toksOf arcs (bump f zs[k].toNat)], updJ J (k + 1) (g6, arcs.length)), rfl, rfl, ⟨R6, by simp [hrl], hk', hr1, ?_⟩, by show r - (k + 1) < r - k; omega⟩
    rw [hr2]; simp
  · rw [List.drop_eq_nil_of_le (by omega), alongR] at hr1 hr2
    conv => whnf
    refine .pub 2 25 1 A' (k + 1) c' _ rfl fun h7 l7 r7 _ => .done ⟨R.all.trans' l7, fun q => ?_, fun _ => ⟨A', c', fun i => (some (J i).1, (J i).2), ?_, ?_⟩⟩
    · rw [hal] at q; exact absurd hr1 q
    · rw [hal]; show _ = Value.tuple #[.slice A' (toksOf arcs (List.replicate N 0) :: (alongR N arcs zs (List.replicate N 0)).2).length c', iv 0]
      rw [hr2, List.append_nil, hrl]; rfl
    · rw [hal]; show ListsAt h7 A' (toksOf arcs (List.replicate N 0) :: (alongR N arcs zs (List.replicate N 0)).2) _
      rw [hr2, List.append_nil]
      have r7 : RowAt h7 25 1 A' (k + 1) c' (rowCells arcs.length J (k + 1)) := r7
      rw [← hrl] at r7
      exact inner_lists r7 fun i hi => (R.inner i hi).mono (R.sub.trans' l7)
end Go.Sx
namespace Go.Sx
open Go.Proofs
set_option maxRecDepth 100000
def marks4 : List Int := [-7770777, -7770777, -7770777, -7770777]
/-- a list lent: its numbers, and marks behind them -/
structure LentL (h : Hp) (A : Option Addr) (r : Nat) (zs : List Int) : Prop where
  len : zs.length = r
  row : Tab h 1 A (r + 4) ((zs ++ marks4).map fun z => [iv z])
theorem LentL.tab {h : Hp} {A : Option Addr} {r : Nat} {zs : List Int} (x : LentL h A r zs) : Tab h 1 A r (zs.map fun z => [iv z]) := by
  have := x.row.take (k := r) (by omega)
  rwa [List.map_append, List.take_left' (by simpa using x.len)] at this
theorem LentL.mono {h h' : Hp} {A : Option Addr} {r : Nat} {zs : List Int} (x : LentL h A r zs) (l : h.le h') : LentL h' A r zs := ⟨x.len, x.row.mono l⟩
theorem map_add0' (A : Option Addr) : A.map (fun a => a.add (0 * 1)) = A := by cases A <;> simp [add_zero]
theorem lent11 (D : Option Addr) (r cap2 : Nat) (zs : List Int) (h : Hp) (hz : Tab h 1 D r (zs.map fun z => [iv z])) (hr : r * 8 ≤ 140737488355328) :
    Fn Tryz.prog 6 #[.slice D r cap2] h fun v h' => h.le h' ∧ ∃ A', v = .slice A' r (r + 4) ∧ LentL h' A' r zs := by
  have hzl : zs.length = r := by simpa using hz.len
  refine Fn.intro (args := [.slice D r cap2]) mix14 Tryz.func6 rfl (by decide) Tryz.ntmps6 rfl (low6 rfl) rfl ?_
  conv => whnf
  refine .ok (by omega) (by omega) ?_
  conv => whnf
  refine EvMake.room (r + 4) rfl (by omega) (by omega) (by omega) fun g => ?_
  conv => whnf
  refine .done (.room 0 g _ _ rfl rfl (hz.src _) (by rw [flat_nums]; exact nums_one zs) (by omega) ?_)
  rw [flat_nums, Nat.zero_add]
  conv => whnf
  refine .mk Nat [0, 3, 4] (fun k => [.v (.slice D r cap2), .v (.slice (some g) (r + k) (r + 4)), .v (iv k)]) (fun k => [.row 3 1 (some g) (r + k) (r + 4) ((zs ++ marks4.take k).map iv)]) (fun k h' => h' = h ∧ k ≤ 4) (fun k => 4 - k) 0 (fun _ => rfl) ⟨rfl, by decide⟩ rfl (by show _ = [LE.row 3 1 (some g) r (r + 4) ((zs ++ []).map iv)]; rw [List.append_nil]; rfl) ?_
  rintro k e h' ⟨rfl, hk⟩
  conv => whnf
  refine br_dec (fun h1 => ?_) (fun h1 => ?_)
  · have hk' : k < 4 := by omega
    conv => whnf
    refine .done (.room 0 g _ [iv (-7770777)] rfl rfl rfl (nums_one [-7770777]) (by omega) ?_)
    conv => whnf
    refine .ok (by omega) (by omega) ?_
    conv => whnf
    refine ⟨k + 1, rfl, ?_, ⟨rfl, hk'⟩, by omega⟩
    have : (zs ++ marks4.take k).map iv ++ [iv (-7770777)] = (zs ++ marks4.take (k + 1)).map iv := by
      match k, hk' with
      | 0, _ => simp [marks4]
      | 1, _ => simp [marks4]
      | 2, _ => simp [marks4]
      | 3, _ => simp [marks4]
    rw [← this]
    rfl
  · obtain rfl : k = 4 := by omega
    conv => whnf
    refine .mk 0 r rfl rfl (Nat.zero_le _) (by omega) fun B hB1 _ => ?_
    obtain rfl : B = some g := by rw [hB1 (by omega), map_add0']
    conv => whnf
    refine .pub 0 3 1 (some g) (r + 4) (r + 4) _ rfl fun h2 hle hro _ => .done ⟨hle, some g, rfl, hzl, ?_⟩
    exact hro.one
theorem kept18 (A D : Option Addr) (r c2 : Nat) (zs : List Int) (h : Hp) (ht : LentL h A r zs) (hz : Tab h 1 D r (zs.map fun z => [iv z])) (hr : r * 8 ≤ 140737488355328) :
    Fn Tryz.prog 12 #[.slice A r (r + 4), .slice D r c2] h fun v h' => v = .bool true ∧ h' = h := by
  obtain ⟨g, rfl⟩ := ht.row.ad (by omega)
  refine Fn.intro (args := [.slice (some g) r (r + 4), .slice D r c2]) mix14 Tryz.func12 rfl (by decide) Tryz.ntmps12 rfl (low12 rfl) rfl ?_
  conv => whnf
  refine .done (.mk _ (same21 _ _ _ _ _ _ _ _ _ ht.tab hz (by omega)) ?_)
  rintro _ h' ⟨rfl, rfl⟩
  rw [decide_eq_true rfl]
  conv => whnf
  refine .ok (by omega) (by omega) ?_
  conv => whnf
  refine .mk 0 (r + 4) rfl rfl (Nat.zero_le _) (Nat.le_refl _) fun B hB1 _ => ?_
  obtain rfl : B = some g := by rw [hB1 (by omega), map_add0']
  conv => whnf
  refine .mk Nat [5, 6] (fun k => [.v (.slice (some g) (r + 4) (r + 4)), .v (iv ((r + k : Nat) : Int))]) (fun _ => []) (fun k h2 => h2 = h' ∧ k ≤ 4) (fun k => 4 - k) 0 (fun _ => rfl) ⟨rfl, by decide⟩ rfl rfl ?_
  rintro k e h2 ⟨rfl, hk⟩
  conv => whnf
  refine br_dec (fun h1 => ?_) (fun h1 => ?_)
  · have hk' : k < 4 := by omega
    have hget : ((zs ++ marks4).map fun z => [iv z])[r + k]? = some [iv (-7770777)] := by
      rw [List.getElem?_map, List.getElem?_append_right (by rw [ht.len]; omega), ht.len, Nat.add_sub_cancel_left]
      match k, hk' with
      | 0, _ => rfl
      | 1, _ => rfl
      | 2, _ => rfl
      | 3, _ => rfl
    conv => whnf
    refine .mk g rfl (by omega) (by omega) ?_
    conv => whnf
    refine .hp (iv (-7770777)) (by rw [Int.toNat_natCast]; exact ht.row.one rfl hget rfl) ?_
    conv => whnf
    refine .ok (by omega) (by omega) ?_
    conv => whnf
    exact ⟨k + 1, rfl, rfl, ⟨rfl, hk'⟩, by omega⟩
  · conv => whnf
    exact .done ⟨rfl, rfl⟩
end Go.Sx
namespace Go.Sx
open Go.Proofs Go.Sort
set_option maxRecDepth 100000
theorem take_step {α : Type} {a b : List α} {k : Nat} (h : a.take k = b.take k) (ha : k < a.length) (hb : k < b.length) : a.take (k + 1) = b.take (k + 1) ↔ a[k] = b[k] := by
  rw [take_succ' ha, take_succ' hb, h]
  exact ⟨fun e => by have := List.append_cancel_left e; simpa using this, fun e => by rw [e]⟩
theorem samePlan32 (A B : Option Addr) (n m ca cb : Nat) (a b : List Pr) (t u : Int) (h : Hp) (hA : Tab h 2 A n (a.map pc)) (hB : Tab h 2 B m (b.map pc)) (hn : n ≤ 1000000000000000000) :
    Fn Tryz.prog 9 #[regV A n ca t, regV B m cb u] h fun r h' => r = .bool (decide (t = u ∧ a = b)) ∧ h' = h := by
  have hal : a.length = n := by simpa using hA.len
  have hbl : b.length = m := by simpa using hB.len
  refine Fn.intro (args := [regV A n ca t, regV B m cb u]) mix14 Tryz.func9 rfl (by decide) Tryz.ntmps9 rfl (low9 rfl) rfl ?_
  conv => whnf
  refine br_dec (fun h0 => ?_) (fun h0 => ?_)
  · conv => whnf
    refine .done ⟨?_, rfl⟩
    rw [decide_eq_false (fun e => h0 e.1)]; rfl
  have h0 : t = u := Decidable.not_not.1 h0
  conv => whnf
  refine br_dec (fun h1 => ?_) (fun h1 => ?_)
  · conv => whnf
    refine .done ⟨?_, rfl⟩
    rw [decide_eq_false (fun e => by have := e.2; subst this; omega)]; rfl
  have hnm : n = m := by omega
  subst hnm
  conv => whnf
  refine .mk Nat [2, 3, 5] (fun k => [.p 0 0, .p 1 0, .v (iv k)]) (fun _ => [.own [.v (.slice A n ca), .v (iv t)] 30, .own [.v (.slice B n cb), .v (iv u)] 30]) (fun k h' => h' = h ∧ k ≤ n ∧ a.take k = b.take k) (fun k => n - k) 0 (fun _ => rfl) ⟨rfl, Nat.zero_le _, by simp⟩ rfl rfl ?_
  rintro k e h' ⟨rfl, hk, heq⟩
  conv => whnf
  refine br_dec (fun h2 => ?_) (fun h2 => ?_)
  · have hk' : k < n := by omega
    obtain ⟨g, hg⟩ := hA.ad (by omega)
    obtain ⟨g2, hg2⟩ := hB.ad (by omega)
    have hst := take_step heq (by omega) (by omega)
    have q1 : (a.map pc)[k]? = some (pc (a[k]'(by omega))) := by rw [List.getElem?_map, List.getElem?_eq_getElem (by omega)]; rfl
    have q2 : (b.map pc)[k]? = some (pc (b[k]'(by omega))) := by rw [List.getElem?_map, List.getElem?_eq_getElem (by omega)]; rfl
    generalize a[k]'(by omega) = x at hst q1
    generalize b[k]'(by omega) = y at hst q2
    conv => whnf
    refine .mk g hg (by omega) (by omega) ?_
    conv => whnf
    refine .hp (pc x) rfl (by rw [Int.toNat_natCast]; exact hA.row hg q1) ?_
    conv => whnf
    refine .mk g2 hg2 (by omega) (by omega) ?_
    conv => whnf
    refine .hp (pc y) rfl (by rw [Int.toNat_natCast]; exact hB.row hg2 q2) ?_
    conv => whnf
    refine br_intro (fun h3 => ?_) (fun h3 => ?_)
    · have h3 : ¬ (x.1 = y.1 ∧ x.2 = y.2) := fun q => by simp [Go.Sx.flip, q.1, q.2] at h3
      conv => whnf
      refine .done ⟨?_, rfl⟩
      rw [decide_eq_false (fun e => h3 (by have := hst.1 (by rw [e.2]); rw [this]; exact ⟨rfl, rfl⟩))]; rfl
    · have h3 : x.1 = y.1 ∧ x.2 = y.2 := by simpa [Go.Sx.flip] using h3
      conv => whnf
      refine .ok (by omega) (by omega) ?_
      conv => whnf
      exact ⟨k + 1, rfl, rfl, ⟨rfl, hk', hst.2 (Prod.ext h3.1 h3.2)⟩, by omega⟩
  · have : k = n := by omega
    subst this
    conv => whnf
    refine .done ⟨?_, rfl⟩
    rw [List.take_of_length_le (by omega), List.take_of_length_le (by omega)] at heq
    rw [decide_eq_true ⟨h0, heq⟩]; rfl
theorem clash31 {h : Hp} {rows : List (List Int)} {B : Option Addr} {cB m : Nat} {J : Nat → Option Addr × Nat} (hL : ListsAt h B rows J) (hlen : ∀ i, i < rows.length → (rows.getD i []).length = m) (hK : rows.length ≤ 1000000) {i j : Nat} (hi : i < m) (hj : j < m) :
    Fn Tryz.prog 44 #[.slice B rows.length cB, iv i, iv j] h fun v h' => v = .bool (meets rows i j) ∧ h' = h := by
  refine Fn.intro (args := [.slice B rows.length cB, iv i, iv j]) mix14 Tryz.func44 rfl (by decide) Tryz.ntmps44 rfl (low44 rfl) rfl ?_
  conv => whnf
  refine .mk Nat [0, 1, 2, 7] (fun k => [.v (.slice B rows.length cB), .v (iv i), .v (iv j), .v (iv k)]) (fun _ => []) (fun k h' => h' = h ∧ k ≤ rows.length ∧ meets rows i j = meets (rows.drop k) i j) (fun k => rows.length - k) 0 (fun _ => rfl) ⟨rfl, Nat.zero_le _, rfl⟩ rfl rfl ?_
  rintro k e h' ⟨rfl, hk, hme⟩
  conv => whnf
  refine br_dec (fun u => ?_) (fun u => ?_)
  · have hk' : k < rows.length := by omega
    obtain ⟨g, hg⟩ := hL.outer.ad (by omega)
    have hin := hL.inner k hk'
    have hlk := hlen k hk'
    obtain ⟨row, hrow⟩ : ∃ row, row = rows.getD k [] := ⟨_, rfl⟩
    rw [← hrow] at hin hlk
    have d1 : rows.drop k = row :: rows.drop (k + 1) := by
      rw [hrow, List.getD_eq_getElem?_getD, List.getElem?_eq_getElem hk']; exact List.drop_eq_getElem_cons hk'
    have hm1 : meets (rows.drop k) i j = ((posAt row i && posAt row j) || meets (rows.drop (k + 1)) i j) := by rw [d1]; rfl
    rw [hm1] at hme
    have p1 := posAt_is (row := row) (i := i) (by omega)
    have p2 := posAt_is (row := row) (i := j) (by omega)
    obtain ⟨g2, hg2⟩ := hin.ad (by omega)
    have ldO : h'.cell? (g.add ((k : Int).toNat * 1)) = some (.slice (J k).1 row.length (J k).2) := by
      rw [Int.toNat_natCast]
      exact hL.outer.one hg (map_range hk') (by rw [← hrow]; rfl)
    have ld : ∀ q (hq : q < m), h'.cell? (g2.add ((q : Int).toNat * 1)) = some (iv (row[q]'(by omega))) := fun q hq => by
      rw [Int.toNat_natCast]; exact hin.one hg2 (r := [iv (row[q]'(by omega))]) (by simp [hlk, hq]) rfl
    conv => whnf
    refine .mk g hg (by omega) (by omega) ?_
    conv => whnf
    refine .hp _ ldO ?_
    conv => whnf
    refine .mk g2 hg2 (by omega) (by omega) ?_
    conv => whnf
    refine .hp _ (ld i hi) ?_
    conv => whnf
    refine br_dec (fun u1 => ?_) (fun u1 => ?_)
    · conv => whnf
      refine .mk g hg (by omega) (by omega) ?_
      conv => whnf
      refine .hp _ ldO ?_
      conv => whnf
      refine .mk g2 hg2 (by omega) (by omega) ?_
      conv => whnf
      refine .hp _ (ld j hj) ?_
      conv => whnf
      refine br_dec (fun u2 => ?_) (fun u2 => ?_)
      · rw [p1, p2, decide_eq_true u1, decide_eq_true u2] at hme
        conv => whnf
        refine .done ⟨?_, rfl⟩
        rw [hme]; rfl
      · rw [p1, p2, decide_eq_true u1, decide_eq_false u2] at hme
        conv => whnf
        refine .ok (by omega) (by omega) ?_
        conv => whnf
        exact ⟨k + 1, rfl, rfl, ⟨rfl, hk', hme⟩, by omega⟩
    · rw [p1, decide_eq_false u1] at hme
      conv => whnf
      refine .ok (by omega) (by omega) ?_
      conv => whnf
      exact ⟨k + 1, rfl, rfl, ⟨rfl, hk', hme⟩, by omega⟩
  · rw [List.drop_of_length_le (by omega)] at hme
    conv => whnf
    refine .done ⟨?_, rfl⟩
    rw [hme]; rfl
end Go.Sx
