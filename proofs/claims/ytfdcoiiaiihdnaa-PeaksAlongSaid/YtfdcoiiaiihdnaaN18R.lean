/- Layer 18: the document's answers. Conditions: none. -/
import Derived.Test.YtfdcoiiaiihdnaaN18Q
import Derived.Test.YtfdcoiiaiihdnaaN18L
namespace Go.Sx
open Go.Proofs
/-- What the document's answer answers: an error, or rows to be read. -/
def RefOk (h : Hp) (N : Int) (arcs : List Arc) (zs : List Int) (r : Value) (h' : Hp) : Prop :=
  h.le h' ∧ ((along N arcs zs).1 ≠ 0 → r = .tuple #[.slice none 0 0, iv (along N arcs zs).1]) ∧ ((along N arcs zs).1 = 0 → ∃ B c J, r = .tuple #[.slice B (along N arcs zs).2.length c, iv 0] ∧ ListsAt h' B (along N arcs zs).2 J)
theorem inner_lists {h : Hp} {n : Nat} {rows : List (List Int)} {A : Option Addr} {c : Nat} {J : Nat → Addr × Nat} (ho : RowAt h 25 1 A rows.length c (rowCells n J rows.length)) (hi : ∀ i (hi : i < rows.length), RowAt h 3 1 (some (J i).1) n (J i).2 (rows[i].map iv)) : ListsAt h A rows fun i => (some (J i).1, (J i).2) := by
  have hl : ∀ i, i < rows.length → (rows.getD i []).length = n := fun i hk => by
    have := (hi i hk).1
    rw [List.getD_eq_getElem?_getD, List.getElem?_eq_getElem hk]
    simpa using this
  refine ⟨?_, fun i hk => ?_⟩
  · rw [rowCells_flat n J rows hl] at ho
    exact ho.tab (fun r hr => by obtain ⟨i, _, rfl⟩ := List.mem_map.1 hr; rfl) (by decide)
  · have := (hi i hk).one
    rw [hl i hk, List.getD_eq_getElem?_getD, List.getElem?_eq_getElem hk]
    exact this
theorem rowCells_add (n : Nat) (J : Nat → Addr × Nat) (k : Nat) (g : Addr) (c : Nat) : rowCells n J k ++ [.slice (some g) n c] = rowCells n (updJ J k (g, c)) (k + 1) := by
  simp only [rowCells, List.range_succ, List.map_append, List.map_cons, List.map_nil]
  congr 1
  · exact List.map_congr_left fun i hi => by
      have := List.mem_range.1 hi
      simp only [updJ]; rw [if_neg (by omega)]
  · simp [updJ]
/-- the state of the document's loop -/
structure Rf (h0 B h : Hp) (gF : Addr) (N n : Nat) (arcs : List Arc) (f : List Int) (k : Nat) (rows : List (List Int)) (J : Nat → Addr × Nat) : Prop where
  le : h0.le B
  none : B gF.block = none
  sub : B.le h
  row : RowAt h 3 1 (some gF) N N (f.map iv)
  good : Good N arcs f k
  inner : ∀ i (hi : i < rows.length), RowAt B 3 1 (some (J i).1) n (J i).2 (rows[i].map iv)
theorem Rf.add {h0 B h h' : Hp} {gF g : Addr} {N n k c : Nat} {arcs : List Arc} {f t : List Int} {rows : List (List Int)} {J : Nat → Addr × Nat} (r : Rf h0 B h gF N n arcs f k rows J) (hle : h.le h') (hr : RowAt h' 3 1 (some g) n c (t.map iv)) (hg : h g.block = .none) :
    Rf h0 (h'.del gF.block) h' gF N n arcs f k (rows ++ [t]) (updJ J rows.length (g, c)) := by
  have hB : B.le (h'.del gF.block) := fun j o e => by
    rw [Hp.del_ne _ (fun q => by subst q; rw [r.none] at e; cases e)]
    exact hle _ _ (r.sub _ _ e)
  have hne : g.block ≠ gF.block := fun q => r.row.mem rfl (by rw [← q]; exact hg)
  refine ⟨Hp.le_trans r.le hB, Hp.del_same _ _, Hp.del_le _ _, r.row.mono hle, r.good, fun i hi => ?_⟩
  by_cases e : i = rows.length
  · subst e
    simp only [updJ, if_true]
    have h3 : RowAt (h'.del gF.block) 3 1 (some g) n c (t.map iv) := hr.del (B := some gF) fun g1 g2 e1 e2 => by injection e1 with e1; injection e2 with e2; subst e1; subst e2; exact hne
    rw [List.getElem_append_right (Nat.le_refl _)]
    simpa using h3
  · have hi' : i < rows.length := by simp at hi; omega
    simp only [updJ, if_neg e]
    rw [List.getElem_append_left hi']
    exact (r.inner i hi').mono hB
theorem Rf.all {h0 B h : Hp} {gF : Addr} {N n k : Nat} {arcs : List Arc} {f : List Int} {rows : List (List Int)} {J : Nat → Addr × Nat} (r : Rf h0 B h gF N n arcs f k rows J) : h0.le h := Hp.le_trans r.le r.sub
theorem Rf.del {h0 B h : Hp} {gF : Addr} {N n k : Nat} {arcs : List Arc} {f : List Int} {rows : List (List Int)} {J : Nat → Addr × Nat} (r : Rf h0 B h gF N n arcs f k rows J) : B.le (h.del gF.block) := fun j o e => by
  rw [Hp.del_ne _ (fun q => by subst q; rw [r.none] at e; cases e)]
  exact r.sub _ _ e
theorem Rf.grow {h0 B h h' : Hp} {gF : Addr} {N n k : Nat} {arcs : List Arc} {f : List Int} {rows : List (List Int)} {J : Nat → Addr × Nat} (r : Rf h0 B h gF N n arcs f k rows J) (hle : h.le h') : Rf h0 B h' gF N n arcs f k rows J :=
  ⟨r.le, r.none, Hp.le_trans r.sub hle, r.row.mono hle, r.good, r.inner⟩
theorem along13 (N : Int) (n cap : Nat) (arcs : List Arc) (A D : Option Addr) (r cap2 : Nat) (zs : List Int) (h : Hp) (ht : Tab h 5 A n (arcs.map Arc.cells)) (hn : n ≤ 9223372036854775806) (hz : Tab h 1 D r (zs.map fun z => [iv z])) :
    Fn Try.prog 13 #[netV N A n cap, .slice D r cap2] h fun v h' => RefOk h N arcs zs v h' := by
  have hzl : zs.length = r := by simpa using hz.len
  obtain rfl : arcs.length = n := by simpa using ht.len
  refine Fn.intro (args := [netV N A arcs.length cap, .slice D r cap2]) mix14 Try.func13 rfl (by decide) Try.ntmps13 rfl (low13 rfl) rfl ?_
  conv => whnf
  refine .done (.mk _ (check20 N A arcs.length cap arcs h ht hn) ?_)
  rintro _ h0 ⟨rfl, rfl⟩
  conv => whnf
  refine br_dec (fun h1 => ?_) (fun h1 => ?_)
  · have hs : chk N arcs ≠ 0 := by simpa using h1
    conv => whnf
    refine .done ⟨Hp.le_refl _, fun _ => ?_, fun q => ?_⟩
    · rw [along_bad hs]; rfl
    · rw [along_bad hs] at q; exact absurd q hs
  have hs : chk N arcs = 0 := by simpa using h1
  have hNb := chk_zero hs
  obtain ⟨N, rfl⟩ : ∃ q : Nat, N = q := ⟨N.toNat, by omega⟩
  conv => whnf
  refine br_dec (fun h2 => ?_) (fun h2 => ?_)
  · conv => whnf
    refine .done ⟨Hp.le_refl _, fun _ => ?_, fun q => ?_⟩
    · rw [along_long hs (by omega)]; rfl
    · rw [along_long hs (by omega)] at q; cases q
  have hal := along_ok (zs := zs) hs (by omega)
  conv => whnf
  refine .done (.mk _ (start32 hs) ?_)
  rintro _ h2 ⟨gF, rfl, l2, rF, fF⟩
  have b2 : h0.le (h2.del gF.block) := fun j o e => by
    rw [Hp.del_ne _ (fun q => by subst q; rw [fF] at e; cases e)]
    exact l2 _ _ e
  have R0 : Rf h0 (h2.del gF.block) h2 gF N arcs.length arcs (List.replicate N 0) 0 [] (fun _ => (⟨0, 0, none⟩, 0)) := ⟨b2, Hp.del_same _ _, Hp.del_le _ _, rF, good_zero hs, fun i hi => by simp at hi⟩
  conv => whnf
  refine .done (.mk _ (counts33 hs (ht.mono l2) rF.one (good_zero hs) (by decide)) ?_)
  rintro _ h3 ⟨g3, rfl, l3, r3, f3⟩
  have R1 := R0.add l3 r3 f3
  conv => whnf
  refine .done (.fresh [.slice (some g3) arcs.length arcs.length] rfl rfl rfl rfl (by simp; rfl) (by simp [maxLen]) (by decide) fun A4 c4 _ => ?_)
  rw [show [Value.slice (some g3) arcs.length arcs.length] = rowCells arcs.length (updJ (fun _ => (⟨0, 0, none⟩, 0)) 0 (g3, arcs.length)) 1 from rowCells_add arcs.length (fun _ => (⟨0, 0, none⟩, 0)) 0 g3 arcs.length]
  conv => whnf
  refine .mkP [0, 1, 3] (Nat × Hp × Option Addr × Nat × List Int × List (List Int) × (Nat → Addr × Nat)) [1, 2, 7, 8, 9] (fun (k, _, A', c', _, _, _) => [.v (.slice D r cap2), .p 0 0, .p 1 0, .v (.slice A' (k + 1) c'), .v (iv k)])
    (fun (k, _, A', c', _, _, J) => [.own [.v (iv N), .v (.slice A arcs.length cap)] 24, .own [.v (iv N), .v (.slice A arcs.length cap), .v (.slice (some gF) N N)] 58, .row 25 1 A' (k + 1) c' (rowCells arcs.length J (k + 1))])
    (fun (k, B, _, _, f, rows, J) h' => Rf h0 B h' gF N arcs.length arcs f k rows J ∧ rows.length = k + 1 ∧ k ≤ r ∧ (alongR N arcs zs (List.replicate N 0)).1 = (alongR N arcs (zs.drop k) f).1 ∧
      toksOf arcs (List.replicate N 0) :: (alongR N arcs zs (List.replicate N 0)).2 = rows ++ (alongR N arcs (zs.drop k) f).2) (fun (k, _, _, _, _, _, _) => r - k)
    (0, h3.del gF.block, A4, c4, List.replicate N 0, [toksOf arcs (List.replicate N 0)], updJ (fun _ => (⟨0, 0, none⟩, 0)) 0 (g3, arcs.length)) (fun (_, _, _, _, _, _, _) => rfl) ⟨R1, rfl, Nat.zero_le _, rfl, rfl⟩ rfl rfl rfl ?_
  rintro ⟨k, B, A', c', f, rows, J⟩ e h' ⟨R, hrl, hk, hr1, hr2⟩
  conv => whnf
  refine br_dec (fun h4 => ?_) (fun h4 => ?_)
  · have hk' : k < r := by omega
    have hdrop : zs.drop k = zs[k] :: zs.drop (k + 1) := List.drop_eq_getElem_cons (by omega)
    obtain ⟨g, hg⟩ := hz.ad (by omega)
    have htB := ht.mono R.le
    have hzB := hz.mono R.le
    rw [hdrop, alongR] at hr1 hr2
    have bad : ∀ z : Int, z ≠ 0 → (alongR N arcs zs (List.replicate N 0)).1 = z → RefOk h0 N arcs zs (.tuple #[.slice none 0 0, iv z]) h' := fun z hz e => by
      refine ⟨R.all, fun _ => ?_, fun q => ?_⟩
      · rw [hal]; show _ = Value.tuple #[_, iv (alongR N arcs zs (List.replicate N 0)).1]; rw [e]
      · rw [hal] at q; exact absurd (e.symm.trans q) hz
    have load : ∀ hh : Hp, h0.le hh → hh.cell? (g.add ((k : Int).toNat * 1)) = some (iv zs[k]) := fun hh hl => by
      rw [Int.toNat_natCast]; exact (hz.mono hl).one hg (r := [iv zs[k]]) (by simp [hzl, hk']) rfl
    conv => whnf
    refine .mk g hg (by omega) (by omega) ?_
    conv => whnf
    refine .hp (iv zs[k]) (load _ R.all) ?_
    conv => whnf
    refine br_dec (fun h5 => ?_) (fun h5 => ?_)
    · rw [if_pos (.inl h5)] at hr1
      conv => whnf
      exact .done (bad 100 (by decide) hr1)
    conv => whnf
    refine .mk g hg (by omega) (by omega) ?_
    conv => whnf
    refine .hp (iv zs[k]) (load _ R.all) ?_
    conv => whnf
    refine br_dec (fun h6 => ?_) (fun h6 => ?_)
    · rw [if_pos (.inr h6)] at hr1
      conv => whnf
      exact .done (bad 100 (by decide) hr1)
    rw [if_neg (by omega)] at hr1 hr2
    conv => whnf
    refine .mk g hg (by omega) (by omega) ?_
    conv => whnf
    refine .hp (iv zs[k]) (load _ R.all) ?_
    conv => whnf
    refine .mk _ (may34 hs (htB.mono R.sub) R.row.one R.good (by omega) zs[k]) (fun _ _ q => by rw [q.2]; exact Hp.le_refl _) ?_
    rintro _ h' ⟨rfl, rfl⟩
    cases hm : may N arcs f zs[k] with
    | false =>
      rw [hm, if_neg (by simp)] at hr1
      conv => whnf
      exact .done (bad 180 (by decide) hr1)
    | true =>
    rw [hm, if_pos rfl] at hr1 hr2
    conv => whnf
    refine .mk g hg (by omega) (by omega) ?_
    conv => whnf
    refine .hp (iv zs[k]) (load _ R.all) ?_
    conv => whnf
    refine .mk fun bk hbk => ?_
    have Rg := R.grow (Hp.le_put (o := .cells #[iv zs[k]] 3 (0, 0)) hbk)
    have hne : bk ≠ gF.block := fun q => R.row.mem rfl (by rw [← q]; exact hbk)
    conv => whnf
    have hlit : Tab ((Hp.put h' bk (.cells #[iv zs[k]] 3 (0, 0))).del gF.block) 1 (some ⟨bk, 0, none⟩) 1 ([zs[k]].map fun z => [iv z]) := litNums (l := [zs[k]]) (by rw [Hp.del_ne _ hne]; exact put_at) rfl
    refine .done (.mk _ (fire35 hs (htB.mono Rg.del) Rg.row Rg.good (by omega) zs[k] hlit 1 hm) ?_)
    rintro _ h5 ⟨l5, r5⟩
    obtain ⟨u, hu, huN⟩ := may_out hm
    have gb : Good N arcs (bump f zs[k].toNat) (k + 1) := by rw [hu] at hm ⊢; exact R.good.bump hs hm
    have R5 : Rf h0 B h5 gF N arcs.length arcs (bump f zs[k].toNat) (k + 1) rows J := ⟨R.le, R.none, Hp.le_trans Rg.del l5, r5, gb, R.inner⟩
    conv => whnf
    refine .done (.mk _ (counts33 hs (htB.mono R5.sub) r5.one gb (by omega)) ?_)
    rintro _ h6 ⟨g6, rfl, l6, r6, f6⟩
    have R6 := R5.add l6 r6 f6
    conv => whnf
    refine .done (.old 2 _ [.slice (some g6) arcs.length arcs.length] rfl rfl (by simp; rfl) (by simp [maxLen]; omega) (by omega) fun A7 c7 _ => ?_)
    rw [rowCells_add]
    conv => whnf
    refine .ok (by omega) (by omega) ?_
    conv => whnf
    rw [hrl] at R6
    refine ⟨(k + 1, h6.del gF.block, A7, c7, bump f zs[k].toNat, rows ++ [toksOf arcs (bump f zs[k].toNat)], updJ J (k + 1) (g6, arcs.length)), rfl, rfl, ⟨R6, by simp [hrl], hk', hr1, ?_⟩, by show r - (k + 1) < r - k; omega⟩
    rw [hr2]; simp
  · rw [List.drop_eq_nil_of_le (by omega), alongR] at hr1 hr2
    conv => whnf
    refine .pub 2 25 1 A' (k + 1) c' _ rfl fun h7 l7 r7 _ => .done ⟨R.all.trans' l7, fun q => ?_, fun _ => ⟨A', c', fun i => (some (J i).1, (J i).2), ?_, ?_⟩⟩
    · rw [hal] at q; exact absurd hr1 q
    · rw [hal]; show _ = Value.tuple #[.slice A' (toksOf arcs (List.replicate N 0) :: (alongR N arcs zs (List.replicate N 0)).2).length c', iv 0]
      rw [hr2, List.append_nil, hrl]; rfl
    · rw [hal]; show ListsAt h7 A' (toksOf arcs (List.replicate N 0) :: (alongR N arcs zs (List.replicate N 0)).2) _
      rw [hr2, List.append_nil]
      have r7 : RowAt h7 25 1 A' (k + 1) c' (rowCells arcs.length J (k + 1)) := r7
      rw [← hrl] at r7
      exact inner_lists r7 fun i hi => (R.inner i hi).mono (R.sub.trans' l7)
end Go.Sx
