/- Layer 19: the document's home and most. Conditions: none. -/
import Derived.Test.YthibgmkobcbhhaaGreatM19L
import Derived.Test.YthibgmkobcbhhaaGreatIr19M
import Derived.Test.YthibgmkobcbhhaaGreatM19V
namespace Go.Sx
open Go.Proofs
set_option maxRecDepth 100000
namespace R18
theorem getD_zip {a b : List Int} {n i : Nat} (ha : a.length = n) (hb : b.length = n) (hi : i < n) : (List.zipWith max a b).getD i 0 = max (a.getD i 0) (b.getD i 0) := by
  simp [List.getD_eq_getElem?_getD, List.getElem?_zipWith, List.getElem?_eq_getElem (show i < a.length by omega), List.getElem?_eq_getElem (show i < b.length by omega)]
theorem fold_len {n : Nat} : ∀ (rs : List (List Int)) (r : List Int), r.length = n → (∀ x ∈ rs, x.length = n) → (rs.foldl (fun a b => List.zipWith max a b) r).length = n
  | [], r, h, _ => h
  | x :: rs, r, h, hx => fold_len rs _ (by simp [h, hx x (by simp)]) fun y hy => hx y (by simp [hy])
theorem fold_ge {n i : Nat} (hi : i < n) : ∀ (rs : List (List Int)) (r : List Int), r.length = n → (∀ x ∈ rs, x.length = n) →
    r.getD i 0 ≤ (rs.foldl (fun a b => List.zipWith max a b) r).getD i 0 ∧ (∀ x ∈ rs, x.getD i 0 ≤ (rs.foldl (fun a b => List.zipWith max a b) r).getD i 0) ∧
    (r.getD i 0 = (rs.foldl (fun a b => List.zipWith max a b) r).getD i 0 ∨ ∃ x ∈ rs, x.getD i 0 = (rs.foldl (fun a b => List.zipWith max a b) r).getD i 0)
  | [], r, h, _ => ⟨Int.le_refl _, by simp, .inl rfl⟩
  | x :: rs, r, h, hx => by
    have hxl := hx x (by simp)
    have hz := getD_zip h hxl hi
    obtain ⟨h1, h2, h3⟩ := fold_ge hi rs (List.zipWith max r x) (by simp [h, hxl]) fun y hy => hx y (by simp [hy])
    rw [hz] at h1 h3
    refine ⟨by simp only [List.foldl_cons]; omega, fun y hy => ?_, ?_⟩
    · rcases List.mem_cons.1 hy with rfl | hy
      · simp only [List.foldl_cons]; omega
      · exact h2 y hy
    · rcases h3 with h3 | ⟨y, hy, h3⟩
      · by_cases q : x.getD i 0 ≤ r.getD i 0
        · left; simp only [List.foldl_cons]; omega
        · right; exact ⟨x, by simp, by simp only [List.foldl_cons]; omega⟩
      · exact .inr ⟨y, by simp [hy], h3⟩
theorem maxes_len {n : Nat} {rows : List (List Int)} (h : rows ≠ []) (hl : ∀ x ∈ rows, x.length = n) : (maxes rows).length = n := by
  cases rows with
  | nil => exact absurd rfl h
  | cons r rs => exact fold_len rs r (hl r (by simp)) fun x hx => hl x (by simp [hx])
theorem maxes_ge {n i : Nat} {rows : List (List Int)} (hi : i < n) (hl : ∀ x ∈ rows, x.length = n) : ∀ x ∈ rows, x.getD i 0 ≤ (maxes rows).getD i 0 := by
  cases rows with
  | nil => simp
  | cons r rs =>
    obtain ⟨h1, h2, _⟩ := fold_ge hi rs r (hl r (by simp)) fun x hx => hl x (by simp [hx])
    intro x hx
    rcases List.mem_cons.1 hx with rfl | hx
    · exact h1
    · exact h2 x hx
theorem maxes_hit {n i : Nat} {rows : List (List Int)} (h : rows ≠ []) (hi : i < n) (hl : ∀ x ∈ rows, x.length = n) : ∃ x ∈ rows, x.getD i 0 = (maxes rows).getD i 0 := by
  cases rows with
  | nil => exact absurd rfl h
  | cons r rs =>
    obtain ⟨_, _, h3⟩ := fold_ge hi rs r (hl r (by simp)) fun x hx => hl x (by simp [hx])
    rcases h3 with h3 | ⟨x, hx, h3⟩
    · exact ⟨r, by simp, h3⟩
    · exact ⟨x, by simp [hx], h3⟩
theorem home_rows {N : Int} {arcs : List Arc} {zs : List Int} {rows : List (List Int)} (he : (along N arcs zs).1 = 0) (hr : (along N arcs zs).2 = rows) : homeOf N arcs zs = decide (rows.getD 0 [] = rows.getD (rows.length - 1) []) := by
  have hne := along_ne he
  rw [hr] at hne
  rw [homeOf, hr, decide_eq_true he, Bool.true_and]
  congr 1
  cases rows with
  | nil => exact absurd rfl hne
  | cons r rs => simp [List.getLastD_eq_getLast?, List.getLast?_eq_getElem?, List.getD_eq_getElem?_getD]

def endOf (zs f : List Int) : List Int := zs.foldl (fun f v => bump f v.toNat) f
theorem alongR_append {N : Nat} {arcs : List Arc} {b : List Int} : ∀ (a f : List Int), (alongR N arcs a f).1 = 0 → alongR N arcs (a ++ b) f = ((alongR N arcs b (endOf a f)).1, (alongR N arcs a f).2 ++ (alongR N arcs b (endOf a f)).2)
  | [], f, _ => rfl
  | v :: a, f, h => by
    rw [alongR] at h
    rw [List.cons_append, alongR, alongR]
    by_cases h1 : v < 0 ∨ (N : Int) ≤ v
    · rw [if_pos h1] at h; cases h
    · rw [if_neg h1] at h ⊢
      rw [if_neg h1]
      by_cases h2 : may N arcs f v = true
      · rw [if_pos h2] at h ⊢
        rw [if_pos h2, alongR_append a _ h]
        rfl
      · rw [if_neg h2] at h; cases h
theorem alongR_take {N : Nat} {arcs : List Arc} : ∀ (zs f : List Int) (k : Nat), (alongR N arcs zs f).1 = 0 → alongR N arcs (zs.take k) f = (0, (alongR N arcs zs f).2.take k)
  | [], f, k, _ => by simp [alongR]
  | v :: zs, f, 0, _ => by simp [alongR]
  | v :: zs, f, k + 1, h => by
    rw [alongR] at h
    rw [List.take_succ_cons, alongR, alongR]
    by_cases h1 : v < 0 ∨ (N : Int) ≤ v
    · rw [if_pos h1] at h; cases h
    · rw [if_neg h1] at h ⊢
      rw [if_neg h1]
      by_cases h2 : may N arcs f v = true
      · rw [if_pos h2] at h ⊢
        rw [if_pos h2, alongR_take zs _ k h]
        rfl
      · rw [if_neg h2] at h; cases h
theorem alongR_all {N : Nat} {arcs : List Arc} : ∀ (zs f : List Int), (alongR N arcs zs f).1 = 0 → (alongR N arcs zs f).2.length = zs.length ∧ (toksOf arcs f :: (alongR N arcs zs f).2).getD zs.length [] = toksOf arcs (endOf zs f)
  | [], f, _ => ⟨rfl, rfl⟩
  | v :: zs, f, h => by
    rw [alongR] at h
    rw [alongR]
    by_cases h1 : v < 0 ∨ (N : Int) ≤ v
    · rw [if_pos h1] at h; cases h
    · rw [if_neg h1] at h ⊢
      by_cases h2 : may N arcs f v = true
      · rw [if_pos h2] at h ⊢
        obtain ⟨q1, q2⟩ := alongR_all zs _ h
        exact ⟨by simp [q1], by rw [List.length_cons, List.getD_cons_succ]; exact q2⟩
      · rw [if_neg h2] at h; cases h
theorem toks_bump {N : Nat} {arcs : List Arc} {f g : List Int} {v : Nat} (hs : chk N arcs = 0) (hf : f.length = N) (hg : g.length = N) (hv : v < N) (h : toksOf arcs f = toksOf arcs g) : toksOf arcs (bump f v) = toksOf arcs (bump g v) := by
  unfold toksOf at h ⊢
  refine List.map_congr_left fun a ha => ?_
  have hok := (chk_zero hs).2.2.2 a ha
  rw [tokOf_bump hok hf hv, tokOf_bump hok hg hv]
  have : tokOf f a = tokOf g a := List.map_inj_left.1 h a ha
  rw [this]
theorem alongR_toks {N : Nat} {arcs : List Arc} (hs : chk N arcs = 0) : ∀ (zs f g : List Int), f.length = N → g.length = N → toksOf arcs f = toksOf arcs g → alongR N arcs zs f = alongR N arcs zs g
  | [], f, g, _, _, _ => rfl
  | v :: zs, f, g, hf, hg, h => by
    rw [alongR, alongR]
    have hm : may N arcs f v = may N arcs g v := by unfold may; rw [h]
    rw [hm]
    by_cases h1 : v < 0 ∨ (N : Int) ≤ v
    · rw [if_pos h1, if_pos h1]
    · rw [if_neg h1, if_neg h1]
      have hb := toks_bump (v := v.toNat) hs hf hg (by omega) h
      rw [alongR_toks hs zs _ _ (by simp [bump, hf]) (by simp [bump, hg]) hb, hb]
theorem endOf_len : ∀ (zs f : List Int), (endOf zs f).length = f.length
  | [], f => rfl
  | v :: zs, f => by unfold endOf; rw [List.foldl_cons]; rw [show List.foldl (fun f v => bump f v.toNat) (bump f v.toNat) zs = endOf zs (bump f v.toNat) from rfl, endOf_len zs]; simp [bump]
theorem along_parts {N : Int} {arcs : List Arc} {zs : List Int} (h : (along N arcs zs).1 = 0) : chk N arcs = 0 ∧ zs.length ≤ 2048 ∧ (alongR N.toNat arcs zs (List.replicate N.toNat 0)).1 = 0 ∧ (along N arcs zs).2 = toksOf arcs (List.replicate N.toNat 0) :: (alongR N.toNat arcs zs (List.replicate N.toNat 0)).2 := by
  by_cases hs : chk N arcs = 0
  · by_cases hl : 2048 < zs.length
    · rw [along_long hs hl] at h; cases h
    · rw [along, if_pos hs, if_neg hl] at h ⊢
      exact ⟨hs, by omega, h, rfl⟩
  · rw [along_bad hs] at h; exact absurd h hs
theorem along_len {N : Int} {arcs : List Arc} {zs : List Int} (h : (along N arcs zs).1 = 0) : (along N arcs zs).2.length = zs.length + 1 := by
  obtain ⟨_, _, h3, h4⟩ := along_parts h
  rw [h4, List.length_cons, (alongR_all zs _ h3).1]
theorem along_take {N : Int} {arcs : List Arc} {zs : List Int} (h : (along N arcs zs).1 = 0) (k : Nat) : along N arcs (zs.take k) = (0, (along N arcs zs).2.take (k + 1)) := by
  obtain ⟨h1, h2, h3, h4⟩ := along_parts h
  rw [h4, along, if_pos h1, if_neg (by simp; omega), alongR_take zs _ k h3]
  rfl

theorem alongR_err {N : Nat} {arcs : List Arc} : ∀ (zs f : List Int), (alongR N arcs zs f).1 ≠ 0 → ((alongR N arcs zs f).1 = 100 ∨ (alongR N arcs zs f).1 = 180) ∧ (fireRun N arcs zs f).1 < zs.length
  | [], f, h => absurd rfl h
  | v :: zs, f, h => by
    rw [alongR] at h ⊢
    rw [fireRun]
    by_cases h1 : v < 0 ∨ (N : Int) ≤ v
    · rw [if_pos h1]
      have hm : may N arcs f v ≠ true := fun q => by
        obtain ⟨u, hu, hN⟩ := may_out q
        omega
      rw [if_neg hm]
      exact ⟨.inl rfl, by simp⟩
    · rw [if_neg h1] at h ⊢
      by_cases h2 : may N arcs f v = true
      · rw [if_pos h2] at h ⊢
        rw [if_pos h2]
        obtain ⟨q1, q2⟩ := alongR_err zs _ h
        exact ⟨q1, by simp; omega⟩
      · rw [if_neg h2]
        rw [if_neg h2]
        exact ⟨.inr rfl, by simp⟩
theorem fireRun_all {N : Nat} {arcs : List Arc} : ∀ (zs f : List Int), (alongR N arcs zs f).1 = 0 → fireRun N arcs zs f = (zs.length, endOf zs f)
  | [], f, _ => rfl
  | v :: zs, f, h => by
    rw [alongR] at h
    rw [fireRun]
    by_cases h1 : v < 0 ∨ (N : Int) ≤ v
    · rw [if_pos h1] at h; cases h
    · rw [if_neg h1] at h
      by_cases h2 : may N arcs f v = true
      · rw [if_pos h2] at h ⊢
        rw [fireRun_all zs _ h]
        rfl
      · rw [if_neg h2] at h; cases h
theorem along_row {N : Int} {arcs : List Arc} {zs : List Int} (h : (along N arcs zs).1 = 0) {k : Nat} (hk : k ≤ zs.length) : (along N arcs zs).2.getD k [] = toksOf arcs (endOf (zs.take k) (List.replicate N.toNat 0)) := by
  obtain ⟨h1, h2, h3, h4⟩ := along_parts h
  have ht := alongR_take zs _ k h3
  obtain ⟨q1, q2⟩ := alongR_all (zs.take k) (List.replicate N.toNat 0) (by rw [ht])
  rw [ht, List.length_take, Nat.min_eq_left hk] at q2
  rw [h4, ← q2]
  cases k with
  | zero => rfl
  | succ k => simp only [List.getD_eq_getElem?_getD, List.getElem?_cons_succ, List.getElem?_take, if_pos (Nat.lt_succ_self k)]
theorem endOf_snoc (zs f : List Int) (v : Int) : endOf (zs ++ [v]) f = bump (endOf zs f) v.toNat := by simp [endOf]
theorem along_may {N : Nat} {arcs : List Arc} {zs : List Int} (h : (along N arcs zs).1 = 0) {k : Nat} (hk : k < zs.length) : may N arcs (endOf (zs.take k) (List.replicate N 0)) zs[k] = true ∧ Good N arcs (endOf (zs.take k) (List.replicate N 0)) k := by
  obtain ⟨h1, h2, h3, h4⟩ := along_parts h
  rw [Int.toNat_natCast] at h3
  have hpre : ∀ j, j ≤ zs.length → (alongR N arcs (zs.take j) (List.replicate N 0)).1 = 0 := fun j _ => by rw [alongR_take zs _ j h3]
  have key := hpre (k + 1) (by omega)
  have hk0 := hpre k (by omega)
  rw [take_succ' hk, alongR_append _ _ hk0] at key
  have hm : may N arcs (endOf (zs.take k) (List.replicate N 0)) zs[k] = true := by
    rw [alongR] at key
    by_cases c1 : zs[k] < 0 ∨ (N : Int) ≤ zs[k]
    · rw [if_pos c1] at key; cases key
    · rw [if_neg c1] at key
      by_cases c2 : may N arcs (endOf (zs.take k) (List.replicate N 0)) zs[k] = true
      · exact c2
      · rw [if_neg c2] at key; cases key
  have hg := run_good h1 (zs.take k) (List.replicate N 0) 0 (good_zero h1)
  rw [fireRun_all _ _ hk0, List.length_take, Nat.min_eq_left (by omega), Nat.zero_add] at hg
  exact ⟨hm, hg⟩
/-- the number that an arc has at moment k -/
def atK (N : Nat) (zs : List Int) (a : Arc) (k : Nat) : Int := tokOf (endOf (zs.take k) (List.replicate N 0)) a
theorem atK_zero (N : Nat) (zs : List Int) (a : Arc) : atK N zs a 0 = a.start := by
  have : ∀ i : Nat, (List.replicate N (0 : Int)).getD i 0 = 0 := fun i => by
    rw [List.getD_eq_getElem?_getD, List.getElem?_replicate]
    split <;> rfl
  unfold atK
  rw [List.take_zero]
  show tokOf (List.replicate N 0) a = _
  unfold tokOf; rw [this, this]; omega
theorem atK_step {N : Nat} {arcs : List Arc} {zs : List Int} (h : (along N arcs zs).1 = 0) {k : Nat} (hk : k < zs.length) {a : Arc} (ha : a ∈ arcs) :
    atK N zs a (k + 1) = atK N zs a k - (if a.dst = zs[k] then a.take else 0) + (if a.src = zs[k] then a.give else 0) ∧ 0 ≤ atK N zs a k ∧ atK N zs a k ≤ 256 + 64 * k ∧ (a.dst = zs[k] → a.take ≤ atK N zs a k) := by
  obtain ⟨hm, hg⟩ := along_may h hk
  obtain ⟨h1, _⟩ := along_parts h
  obtain ⟨u, hu, huN⟩ := may_out hm
  have hok := (chk_zero h1).2.2.2 a ha
  refine ⟨?_, hg.tok a ha, hg.tok_le h1 ha, fun hd => ?_⟩
  · unfold atK
    rw [take_succ' hk, endOf_snoc, hu, Int.toNat_natCast, tokOf_bump hok hg.len huN]
  · rw [hu] at hm hd
    exact (may_iff.1 hm).2 a ha hd
theorem atK_last {N : Nat} {arcs : List Arc} {zs : List Int} (h : (along N arcs zs).1 = 0) {k : Nat} (hk : k ≤ zs.length) {a : Arc} (ha : a ∈ arcs) : 0 ≤ atK N zs a k ∧ atK N zs a k ≤ 256 + 64 * k := by
  obtain ⟨h1, h2, h3, h4⟩ := along_parts h
  rw [Int.toNat_natCast] at h3
  have hg := run_good h1 (zs.take k) (List.replicate N 0) 0 (good_zero h1)
  rw [fireRun_all _ _ (by rw [alongR_take zs _ k h3]), List.length_take, Nat.min_eq_left (by omega), Nat.zero_add] at hg
  exact ⟨hg.tok a ha, hg.tok_le h1 ha⟩
theorem home23 (N : Int) (n cap : Nat) (arcs : List Arc) (A D : Option Addr) (r cap2 : Nat) (zs : List Int) (h : Hp) (ht : Tab h 5 A n (arcs.map Arc.cells)) (hn : n ≤ 9223372036854775806) (hz : Tab h 1 D r (zs.map fun z => [iv z])) :
    Fn Tryz.prog 26 #[netV N A n cap, .slice D r cap2] h fun v h' => v = .tuple #[.bool (homeOf N arcs zs), iv (along N arcs zs).1] ∧ h.le h' := by
  refine Fn.intro (args := [netV N A n cap, .slice D r cap2]) mix14 Tryz.func26 rfl (by decide) Tryz.ntmps26 rfl (low26 rfl) rfl ?_
  conv => whnf
  refine .done (.mk _ (along13 N n cap arcs A D r cap2 zs h ht hn hz) ?_)
  rintro v h' ⟨hle, hb, hg⟩
  by_cases he : (along N arcs zs).1 = 0
  · obtain ⟨B, c, J, rfl, hl⟩ := hg he
    have hsz := along_size N arcs zs
    have hne := along_ne he
    generalize hrows : (along N arcs zs).2 = rows at *
    have h00 : 0 < rows.length := Nat.pos_of_ne_zero fun q => hne (List.eq_nil_of_length_eq_zero q)
    have hl1 : rows.length - 1 < rows.length := by omega
    obtain ⟨g, hg⟩ := hl.outer.ad (by omega)
    conv => whnf
    refine .mk g hg (by omega) (by omega) ?_
    conv => whnf
    refine .hp (.slice (J 0).1 (rows.getD 0 []).length (J 0).2) (hl.outer.one hg (i := 0) (map_range h00) rfl) ?_
    conv => whnf
    refine .ok (by omega) (by omega) ?_
    conv => whnf
    refine .mk g hg (by omega) (by omega) ?_
    conv => whnf
    refine .hp (.slice (J (rows.length - 1)).1 (rows.getD (rows.length - 1) []).length (J (rows.length - 1)).2) (by rw [show ((rows.length : Int) - 1).toNat = rows.length - 1 by omega]; exact hl.outer.one hg (map_range hl1) rfl) ?_
    conv => whnf
    have hlen0 : (rows.getD 0 []).length ≤ 9223372036854775806 := by
      obtain ⟨h1, _, _, h4⟩ := along_parts he
      rw [hrows] at h4
      rw [h4]
      have := (chk_zero h1).2.2.1
      simp [toksOf_len]; omega
    refine .mk _ (same21 _ _ _ _ _ _ _ _ _ (hl.inner 0 h00) (hl.inner _ hl1) hlen0) (fun _ _ q => by rw [q.2]; exact Hp.le_refl _) ?_
    rintro _ _ ⟨rfl, rfl⟩
    rw [← home_rows he hrows]
    conv => whnf
    refine .done ⟨?_, hle⟩
    rw [he]; rfl
  · obtain rfl := hb he
    conv => whnf
    refine br_dec (fun _ => ?_) (fun q => absurd he q)
    conv => whnf
    refine .done ⟨?_, hle⟩
    rw [homeOf, decide_eq_false he]; rfl

/-- the greatest number at i of the first k rows, from 0 on -/
def topK (rows : List (List Int)) (i k : Nat) : Int := (rows.take k).foldl (fun a x => max a (x.getD i 0)) 0
theorem topK_step {rows : List (List Int)} {i k : Nat} (hk : k < rows.length) : topK rows i (k + 1) = max (topK rows i k) ((rows.getD k []).getD i 0) := by
  have e : rows.getD k [] = rows[k] := by rw [List.getD_eq_getElem?_getD, List.getElem?_eq_getElem hk]; rfl
  unfold topK
  rw [take_succ' hk, List.foldl_append, e]; rfl
theorem foldmax_ge : ∀ (rows : List (List Int)) (i : Nat) (a : Int), a ≤ rows.foldl (fun a x => max a (x.getD i 0)) a ∧ ∀ x ∈ rows, x.getD i 0 ≤ rows.foldl (fun a x => max a (x.getD i 0)) a
  | [], i, a => ⟨Int.le_refl _, by simp⟩
  | r :: rows, i, a => by
    obtain ⟨h1, h2⟩ := foldmax_ge rows i (max a (r.getD i 0))
    refine ⟨by simp only [List.foldl_cons]; omega, fun x hx => ?_⟩
    rcases List.mem_cons.1 hx with rfl | hx
    · simp only [List.foldl_cons]; omega
    · exact h2 x hx
theorem foldmax_le : ∀ (rows : List (List Int)) (i : Nat) (a M : Int), a ≤ M → (∀ x ∈ rows, x.getD i 0 ≤ M) → rows.foldl (fun a x => max a (x.getD i 0)) a ≤ M
  | [], i, a, M, h, _ => h
  | r :: rows, i, a, M, h, hx => foldmax_le rows i _ M (by have := hx r (by simp); show max a (r.getD i 0) ≤ M; omega) fun x hm => hx x (by simp [hm])
theorem topK_all {rows : List (List Int)} {n i : Nat} (hne : rows ≠ []) (hi : i < n) (hl : ∀ x ∈ rows, x.length = n) (h0 : ∀ x ∈ rows, 0 ≤ x.getD i 0) : topK rows i rows.length = (maxes rows).getD i 0 := by
  unfold topK
  rw [List.take_length]
  obtain ⟨x, hx, ex⟩ := maxes_hit hne hi hl
  have g1 := (foldmax_ge rows i 0).2 x hx
  have g2 := foldmax_le rows i 0 ((maxes rows).getD i 0) (by have := h0 x hx; omega) (maxes_ge hi hl)
  omega
theorem along_rows {N : Nat} {arcs : List Arc} {zs : List Int} (h : (along N arcs zs).1 = 0) : (∀ x ∈ (along N arcs zs).2, x.length = arcs.length) ∧ ∀ i, ∀ x ∈ (along N arcs zs).2, 0 ≤ x.getD i 0 := by
  have key : ∀ x ∈ (along N arcs zs).2, ∃ k, k ≤ zs.length ∧ x = toksOf arcs (endOf (zs.take k) (List.replicate N 0)) := fun x hx => by
    obtain ⟨k, hk, rfl⟩ := List.getElem_of_mem hx
    have hl := along_len h
    have hr := along_row h (k := k) (by omega)
    rw [List.getD_eq_getElem?_getD, List.getElem?_eq_getElem hk] at hr
    exact ⟨k, by omega, hr⟩
  refine ⟨fun x hx => ?_, fun i x hx => ?_⟩
  · obtain ⟨k, _, rfl⟩ := key x hx
    exact toksOf_len _ _
  · obtain ⟨k, hk, rfl⟩ := key x hx
    rw [List.getD_eq_getElem?_getD]
    cases e : (toksOf arcs (endOf (zs.take k) (List.replicate N 0)))[i]? with
    | none => simp
    | some y =>
      have hm := List.mem_of_getElem? e
      obtain ⟨a, ha, rfl⟩ := List.mem_map.1 hm
      exact (atK_last h hk ha).1
/-- What the document's most answers. -/
def RefM (h : Hp) (N : Int) (arcs : List Arc) (zs : List Int) (r : Value) (h' : Hp) : Prop :=
  h.le h' ∧ ((along N arcs zs).1 ≠ 0 → r = .tuple #[.slice none 0 0, iv (along N arcs zs).1]) ∧ ((along N arcs zs).1 = 0 → ∃ B c, r = .tuple #[.slice B arcs.length c, iv 0] ∧ Tab h' 1 B arcs.length ((maxes (along N arcs zs).2).map fun z => [iv z]))
theorem most20 (N : Int) (n cap : Nat) (arcs : List Arc) (A D : Option Addr) (r cap2 : Nat) (zs : List Int) (h : Hp) (ht : Tab h 5 A n (arcs.map Arc.cells)) (hn : n ≤ 9223372036854775806) (hz : Tab h 1 D r (zs.map fun z => [iv z])) :
    Fn Tryz.prog 27 #[netV N A n cap, .slice D r cap2] h fun v h' => RefM h N arcs zs v h' := by
  obtain rfl : arcs.length = n := by simpa using ht.len
  refine Fn.intro (args := [netV N A arcs.length cap, .slice D r cap2]) mix14 Tryz.func27 rfl (by decide) Tryz.ntmps27 rfl (low27 rfl) rfl ?_
  conv => whnf
  refine .done (.mk _ (along13 N arcs.length cap arcs A D r cap2 zs h ht hn hz) ?_)
  rintro v h1 ⟨hle, hb, hg⟩
  by_cases he : (along N arcs zs).1 = 0
  · obtain ⟨B, c, J, rfl, hl⟩ := hg he
    have hs := (along_parts he).1
    have hNb := chk_zero hs
    obtain ⟨N, rfl⟩ : ∃ q : Nat, N = q := ⟨N.toNat, by omega⟩
    obtain ⟨r1, r2⟩ := along_rows he
    have hsz := along_size N arcs zs
    have hne := along_ne he
    have hfin : ∀ B c h', h.le h' → Tab h' 1 B arcs.length ((maxes (along N arcs zs).2).map fun z => [iv z]) → RefM h N arcs zs (.tuple #[.slice B arcs.length c, iv 0]) h' := fun B c h' l t => ⟨l, fun q => absurd he q, fun _ => ⟨B, c, rfl, t⟩⟩
    generalize hrows : (along N arcs zs).2 = rows at *
    have hmx := maxes_len hne r1
    conv => whnf
    refine .mkS [0] (Nat × Option Addr × Nat) [2, 6, 8, 9] (fun (i, A', c') => [.p 0 0, .v (.slice B rows.length c), .v (.slice A' i c'), .v (iv i)]) (fun _ => [.own [.v (iv N), .v (.slice A arcs.length cap)] 24])
      (fun (i, A', c') h' => h1.le h' ∧ i ≤ arcs.length ∧ RowAt h' 3 1 A' i c' (((maxes rows).take i).map iv) ∧ ∀ g, A' = some g → h1 g.block = none) (fun (i, _, _) => arcs.length - i) (0, none, 0) (fun (_, _, _) => rfl) ⟨Hp.le_refl _, Nat.zero_le _, ⟨rfl, .inl ⟨rfl, rfl, rfl⟩⟩, by simp⟩ rfl rfl rfl ?_
    rintro ⟨i, A', c'⟩ e h2 ⟨l2, hi, hro, hfr⟩
    refine .done ?_
    conv => whnf
    refine br_dec (fun u1 => ?_) (fun u1 => ?_)
    · have hi' : i < arcs.length := by omega
      conv => whnf
      refine .mk Nat [2, 6, 8, 9, 10, 11] (fun k => [.p 0 0, .v (.slice B rows.length c), .v (.slice A' i c'), .v (iv i), .v (iv (topK rows i k)), .v (iv k)]) (fun _ => [.own [.v (iv N), .v (.slice A arcs.length cap)] 24]) (fun k h' => h' = h2 ∧ k ≤ rows.length) (fun k => rows.length - k) 0 (fun _ => rfl) ⟨rfl, Nat.zero_le _⟩ rfl rfl ?_
      rintro k e2 h2 ⟨rfl, hk⟩
      conv => whnf
      refine br_dec (fun u2 => ?_) (fun u2 => ?_)
      · have hk' : k < rows.length := by omega
        obtain ⟨g, hg⟩ := hl.outer.ad (by omega)
        have hl2 := hl.mono l2
        have hrk : rows.getD k [] = rows[k] := by rw [List.getD_eq_getElem?_getD, List.getElem?_eq_getElem hk']; rfl
        have hkl : (rows.getD k []).length = arcs.length := by rw [hrk]; exact r1 _ (List.getElem_mem hk')
        have hin := hl2.inner k hk'
        rw [hkl] at hin
        obtain ⟨g2, hg2⟩ := hin.ad (by omega)
        conv => whnf
        refine .mk g hg (by omega) (by omega) ?_
        conv => whnf
        refine .hp (.slice (J k).1 (rows.getD k []).length (J k).2) (by rw [Int.toNat_natCast]; exact hl2.outer.one hg (map_range hk') rfl) ?_
        rw [hkl]
        conv => whnf
        refine .mk g2 hg2 (by omega) (by omega) ?_
        conv => whnf
        refine .hp (iv ((rows.getD k []).getD i 0)) (by
          rw [Int.toNat_natCast]
          refine hin.one hg2 (r := [iv ((rows.getD k []).getD i 0)]) ?_ rfl
          rw [List.getElem?_map, List.getElem?_eq_getElem (by omega), List.getD_eq_getElem?_getD (l := rows.getD k []), List.getElem?_eq_getElem (by omega)]; rfl) ?_
        conv => whnf
        refine .ok (by omega) (by omega) ?_
        conv => whnf
        refine ⟨k + 1, ?_, rfl, ⟨rfl, hk'⟩, by omega⟩
        rw [topK_step hk']; rfl
      · obtain rfl : k = rows.length := by omega
        have htop := topK_all hne hi' r1 (r2 i)
        rw [htop]
        conv => whnf
        refine .abs 3 1 A' i c' _ hro (.done (.old 2 _ [iv ((maxes rows).getD i 0)] rfl rfl (nums_one [(maxes rows).getD i 0]) (by simp [maxLen]; omega) (by omega) fun A2 c2 hA2 => ?_))
        conv => whnf
        refine .ok (by omega) (by omega) ?_
        conv => whnf
        refine .pub 2 3 1 A2 (i + 1) c2 _ rfl fun h3 hle3 hr3 hf3 => .done ⟨(i + 1, A2, c2), rfl, rfl, ⟨Hp.le_trans (delA_none l2 hfr) hle3, hi', ?_, fun g hg => le_none (delA_none l2 hfr) (hf3 g hg)⟩, by show arcs.length - (i + 1) < arcs.length - i; omega⟩
        have hr3 : RowAt h3 3 1 A2 (i + 1) c2 (((maxes rows).take i).map iv ++ [iv ((maxes rows).getD i 0)]) := hr3
        have e3 : (maxes rows).getD i 0 = (maxes rows)[i]'(by omega) := by rw [List.getD_eq_getElem?_getD, List.getElem?_eq_getElem (by omega)]; rfl
        rw [take_succ' (by omega), List.map_append, ← e3]
        exact hr3
    · obtain rfl : i = arcs.length := by omega
      rw [List.take_of_length_le (by omega)] at hro
      conv => whnf
      exact .done (hfin A' c' h2 (hle.trans' l2) hro.one)
  · obtain rfl := hb he
    conv => whnf
    refine br_dec (fun _ => ?_) (fun q => absurd he q)
    conv => whnf
    exact .done ⟨hle, fun _ => rfl, fun q => absurd q he⟩
end R18
end Go.Sx
namespace Go.Sx
open Go.Proofs Go.Sort
set_option maxRecDepth 100000
theorem share36 (x y : Pr) (h : Hp) (hx : Sm x) (hy : Sm y) : Fn Tryz.prog 36 #[.agg #[iv x.1, iv x.2], .agg #[iv y.1, iv y.2]] h fun v h' => v = .bool (shareR x y) ∧ h' = h := by
  obtain ⟨a1, a2, a3, a4⟩ := hx
  obtain ⟨b1, b2, b3, b4⟩ := hy
  have hs := share_iff x y
  have no : ¬ (x.1 < x.1 + x.2 ∧ x.1 < y.1 + y.2 ∧ y.1 < x.1 + x.2 ∧ y.1 < y.1 + y.2) → Value.bool false = .bool (shareR x y) := fun q => by
    rw [← hs] at q
    rw [Bool.eq_false_iff.2 q]
  refine Fn.intro (args := [.agg #[iv x.1, iv x.2], .agg #[iv y.1, iv y.2]]) mix14 Tryz.func36 rfl (by decide) Tryz.ntmps36 rfl (low36 rfl) rfl ?_
  conv => whnf
  refine br_dec (fun u1 => ?_) (fun u1 => ?_)
  · conv => whnf
    refine br_dec (fun u2 => ?_) (fun u2 => ?_)
    · conv => whnf
      refine .ok (by omega) (by omega) ?_
      conv => whnf
      refine br_dec (fun u3 => ?_) (fun u3 => ?_)
      · conv => whnf
        refine .ok (by omega) (by omega) ?_
        conv => whnf
        refine .done ⟨congrArg Value.bool ?_, rfl⟩
        show decide (y.1 < x.1 + x.2) = _
        rw [Bool.eq_iff_iff, hs, decide_eq_true_iff]
        omega
      · conv => whnf
        exact .done ⟨no (by omega), rfl⟩
    · conv => whnf
      exact .done ⟨no (by omega), rfl⟩
  · conv => whnf
    exact .done ⟨no (by omega), rfl⟩
theorem cells30 (A : Option Addr) (n cap : Nat) (l : List Pr) (h : Hp) (ht : Tab h 2 A n (l.map pc)) (hs : ∀ x ∈ l, Sm x) (hn : n ≤ 1000000000000000000) :
    Fn Tryz.prog 30 #[.slice A n cap] h fun v h' => v = iv (totalR l) ∧ h' = h := by
  have hl : l.length = n := by simpa using ht.len
  refine Fn.intro (args := [.slice A n cap]) mix14 Tryz.func30 rfl (by decide) Tryz.ntmps30 rfl (low30 rfl) rfl ?_
  conv => whnf
  refine .mk Nat [0, 3, 4] (fun k => [.v (.slice A n cap), .v (iv (totalR (l.take k))), .v (iv k)]) (fun _ => []) (fun k h' => h' = h ∧ k ≤ n) (fun k => n - k) 0 (fun _ => rfl) ⟨rfl, Nat.zero_le _⟩ rfl rfl ?_
  rintro k e h' ⟨rfl, hk⟩
  conv => whnf
  refine br_dec (fun u => ?_) (fun u => ?_)
  · have hk' : k < l.length := by omega
    obtain ⟨g, hg⟩ := ht.ad (by omega)
    obtain ⟨x, hx⟩ : ∃ x, x = l[k] := ⟨_, rfl⟩
    obtain ⟨a1, a2, a3, a4⟩ := hs x (by rw [hx]; exact List.getElem_mem hk')
    have row : (l.map pc)[k]? = some (pc x) := by rw [List.getElem?_map, List.getElem?_eq_getElem hk', hx]; rfl
    have ld0 : h'.cell? ((g.add ((k : Int).toNat * 2)).add 0) = some (iv x.1) := by
      rw [add_add, Int.toNat_natCast]; exact ht.cell g hg k _ row 0 _ rfl
    have ld1 : h'.cell? ((g.add ((k : Int).toNat * 2)).add 1) = some (iv x.2) := by
      rw [add_add, Int.toNat_natCast]; exact ht.cell g hg k _ row 1 _ rfl
    conv => whnf
    refine .mk g hg (by omega) (by omega) ?_
    conv => whnf
    refine .hp (iv x.1) ld0 ?_
    conv => whnf
    refine .mk g hg (by omega) (by omega) ?_
    conv => whnf
    refine .hp (iv x.2) ld1 ?_
    conv => whnf
    refine .ok (by omega) (by omega) ?_
    conv => whnf
    refine .ok (by omega) (by omega) ?_
    conv => whnf
    refine ⟨k + 1, ?_, rfl, ⟨rfl, by omega⟩, by omega⟩
    have e1 : l.take (k + 1) = l.take k ++ [x] := by rw [List.take_add_one, List.getElem?_eq_getElem hk', hx]; rfl
    rw [e1, totalR_snoc]
    rfl
  · have : k = n := by omega
    subst this
    conv => whnf
    refine .done ⟨?_, rfl⟩
    rw [List.take_of_length_le (by omega)]; rfl
theorem sameRegs14 (A B : Option Addr) (n m ca cb : Nat) (a b : List Pr) (h : Hp) (hA : Tab h 2 A n (a.map pc)) (hB : Tab h 2 B m (b.map pc)) (hn : n ≤ 1000000000000000000) :
    Fn Tryz.prog 14 #[.slice A n ca, .slice B m cb] h fun r h' => r = .bool (decide (a = b)) ∧ h' = h := by
  have hal : a.length = n := by simpa using hA.len
  have hbl : b.length = m := by simpa using hB.len
  refine Fn.intro (args := [.slice A n ca, .slice B m cb]) mix14 Tryz.func14 rfl (by decide) Tryz.ntmps14 rfl (low14 rfl) rfl ?_
  conv => whnf
  refine br_dec (fun h1 => ?_) (fun h1 => ?_)
  · conv => whnf
    refine .done ⟨?_, rfl⟩
    rw [decide_eq_false (fun e => by subst e; omega)]; rfl
  have hnm : n = m := by omega
  subst hnm
  conv => whnf
  refine .mk Nat [0, 1, 5] (fun k => [.v (.slice A n ca), .v (.slice B n cb), .v (iv k)]) (fun _ => []) (fun k h' => h' = h ∧ k ≤ n ∧ a.take k = b.take k) (fun k => n - k) 0 (fun _ => rfl) ⟨rfl, Nat.zero_le _, by simp⟩ rfl rfl ?_
  rintro k e h' ⟨rfl, hk, heq⟩
  conv => whnf
  refine br_dec (fun h2 => ?_) (fun h2 => ?_)
  · have hk' : k < n := by omega
    obtain ⟨g, hg⟩ := hA.ad (by omega)
    obtain ⟨g2, hg2⟩ := hB.ad (by omega)
    have hst := take_step heq (by omega) (by omega)
    have q1 : (a.map pc)[k]? = some (pc (a[k]'(by omega))) := by rw [List.getElem?_map, List.getElem?_eq_getElem (by omega)]; rfl
    have q2 : (b.map pc)[k]? = some (pc (b[k]'(by omega))) := by rw [List.getElem?_map, List.getElem?_eq_getElem (by omega)]; rfl
    generalize a[k]'(by omega) = x at hst q1
    generalize b[k]'(by omega) = y at hst q2
    conv => whnf
    refine .mk g hg (by omega) (by omega) ?_
    conv => whnf
    refine .hp (pc x) rfl (by rw [Int.toNat_natCast]; exact hA.row hg q1) ?_
    conv => whnf
    refine .mk g2 hg2 (by omega) (by omega) ?_
    conv => whnf
    refine .hp (pc y) rfl (by rw [Int.toNat_natCast]; exact hB.row hg2 q2) ?_
    conv => whnf
    refine br_intro (fun h3 => ?_) (fun h3 => ?_)
    · have h3 : ¬ (x.1 = y.1 ∧ x.2 = y.2) := fun q => by simp [Go.Sx.flip, q.1, q.2] at h3
      conv => whnf
      refine .done ⟨?_, rfl⟩
      rw [decide_eq_false (fun e => h3 (by have := hst.1 (by rw [e]); rw [this]; exact ⟨rfl, rfl⟩))]; rfl
    · have h3 : x.1 = y.1 ∧ x.2 = y.2 := by simpa [Go.Sx.flip] using h3
      conv => whnf
      refine .ok (by omega) (by omega) ?_
      conv => whnf
      exact ⟨k + 1, rfl, rfl, ⟨rfl, hk', hst.2 (Prod.ext h3.1 h3.2)⟩, by omega⟩
  · have : k = n := by omega
    subst this
    conv => whnf
    refine .done ⟨?_, rfl⟩
    rw [List.take_of_length_le (by omega), List.take_of_length_le (by omega)] at heq
    rw [decide_eq_true heq]; rfl
end Go.Sx
namespace Go.Sx
open Go.Proofs Go.Sort
set_option maxRecDepth 100000
theorem refCheck15 (N : Int) (n cap : Nat) (arcs : List Arc) (A D : Option Addr) (r cap2 : Nat) (zs : List Int) (h : Hp) (ht : Tab h 5 A n (arcs.map Arc.cells)) (hn : n * 40 ≤ 140737488355328) (hz : Tab h 1 D r (zs.map fun z => [iv z])) (P : Option Addr) (pn pcap : Nat) (rs : List Pr) (t : Int) (hp : Tab h 2 P pn (rs.map pc)) :
    Fn Tryz.prog 15 #[netV N A n cap, regV P pn pcap t, .slice D r cap2] h fun v h' => v = iv (checkE N arcs zs rs t) ∧ h.le h' := by
  have hpl : rs.length = pn := by simpa using hp.len
  have hal0 : arcs.length = n := by simpa using ht.len
  subst hal0
  refine Fn.intro (args := [netV N A arcs.length cap, regV P pn pcap t, .slice D r cap2]) mix14 Tryz.func15 rfl (by decide) Tryz.ntmps15 rfl (low15 rfl) rfl ?_
  conv => whnf
  refine .done (.mk _ (refClash12 N arcs.length cap arcs A D r cap2 zs h ht hn hz) ?_)
  rintro _ h1 ⟨l1, hb, hg⟩
  by_cases hal : (along N arcs zs).1 = 0
  · obtain ⟨E, c, rfl, roE, _⟩ := hg hal
    have hchk := along_chk hal
    have hm := (chk_zero hchk).2.2.1
    conv => whnf
    refine .done (.mk _ (R18.home23 N arcs.length cap arcs A D r cap2 zs h1 (ht.mono l1) (by omega) (hz.mono l1)) ?_)
    rintro _ h2 ⟨rfl, l2⟩
    have l12 := Hp.le_trans l1 l2
    by_cases hh : homeOf N arcs zs = true
    · rw [hh]
      have hE : lookE N arcs zs = 0 := by unfold lookE; rw [if_neg (fun q => q hal), if_pos hh]
      have hC : checkE N arcs zs rs t = planE (pairsR (along N arcs zs).2 arcs.length) (maxes (along N arcs zs).2) arcs.length rs t := by unfold checkE; rw [if_neg (fun q => q hE)]
      conv => whnf
      refine .done (.mk _ (R18.most20 N arcs.length cap arcs A D r cap2 zs h2 (ht.mono l12) (by omega) (hz.mono l12)) ?_)
      rintro _ h3 ⟨l3, _, hg3⟩
      obtain ⟨F, d, rfl, tF⟩ := hg3 hal
      have l13 := Hp.le_trans l12 l3
      have hpm : ∀ p ∈ pairsR (along N arcs zs).2 arcs.length, (0 ≤ p.1 ∧ p.1.toNat < arcs.length) ∧ 0 ≤ p.2 ∧ p.2.toNat < arcs.length := fun p hp => by
        obtain ⟨i, j, rfl, a, b, _⟩ := pairs_mem.1 hp
        exact ⟨⟨by show (0 : Int) ≤ (i : Int); omega, by show (i : Int).toNat < _; omega⟩, by show (0 : Int) ≤ (j : Int); omega, by show (j : Int).toNat < _; omega⟩
      have hps : (pairsR (along N arcs zs).2 arcs.length).length ≤ 9216 := Nat.le_trans (all_pairs arcs.length _ ((pairs_sorted _ _).imp fun {a b} h e => by rw [e] at h; exact pl_irr _ h) fun p hp => by
        obtain ⟨i, j, e, a, b, _⟩ := pairs_mem.1 hp
        exact ⟨i, j, e, by omega, b⟩) (Nat.mul_le_mul hm hm)
      rw [hC]
      have hpk : (maxes (along N arcs zs).2).length = arcs.length := by simpa using tF.len
      have tE := (roE.mono (Hp.le_trans l2 l3)).tab2
      generalize pairsR (along N arcs zs).2 arcs.length = ps at tE hpm hps ⊢
      generalize maxes (along N arcs zs).2 = pk at tF hpk ⊢
      have hp1 := hp.mono l13
      generalize hc1 : IR.seq (.reg ir15_r11) (.block 0 (.loop ir15_l1)) = c1
      generalize hc2 : IR.seq (.reg ir15_r23) (.block 2 (.loop ir15_l2)) = c2
      conv => whnf
      refine br_dec (fun u => ?_) (fun u => ?_)
      · conv => whnf
        refine .done ⟨?_, l13⟩
        unfold planE
        rw [if_pos (by omega)]; rfl
      have hlen : rs.length = arcs.length := by omega
      have hP1 : planE ps pk arcs.length rs t = if regE rs pk ≠ 0 then regE rs pk else if t ≠ totalR rs then 191 else if 1024 < t then 5 else if ps.any (hitR rs) = true then 192 else 0 := by unfold planE; rw [if_neg (by omega)]
      rw [hP1]
      conv => whnf
      subst hc1
      conv => whnf
      refine .mk Nat [4, 7, 11, 13] (fun k => [.p 1 0, .v (.slice E ps.length c), .v (.slice F arcs.length d), .v (iv k)])
        (fun _ => [.own [.v (iv N), .v (.slice A arcs.length cap)] 24, .own [.v (.slice P pn pcap), .v (iv t)] 30])
        (fun k h' => h' = h3 ∧ k ≤ pn ∧ regE rs pk = regE (rs.drop k) (pk.drop k)) (fun k => pn - k) 0 (fun _ => rfl) ⟨rfl, Nat.zero_le _, rfl⟩ rfl rfl ?_
      rintro k e h' ⟨rfl, hk, hreg⟩
      conv => whnf
      refine br_dec (fun u1 => ?_) (fun u1 => ?_)
      · have hk' : k < rs.length := by omega
        obtain ⟨g, hg⟩ := hp1.ad (by omega)
        obtain ⟨x, hx⟩ : ∃ x, x = rs[k] := ⟨_, rfl⟩
        obtain ⟨p, hpp⟩ : ∃ p, p = pk[k]'(by omega) := ⟨_, rfl⟩
        have hget : (rs.map pc)[k]? = some (pc x) := by rw [List.getElem?_map, List.getElem?_eq_getElem hk', hx]; rfl
        have d1 : rs.drop k = x :: rs.drop (k + 1) := by rw [hx]; exact List.drop_eq_getElem_cons hk'
        have d2 : pk.drop k = p :: pk.drop (k + 1) := by rw [hpp]; exact List.drop_eq_getElem_cons (by omega)
        rw [d1, d2, regE] at hreg
        have bad : (min x.1 x.2 < 0 ∨ 1024 < max x.1 x.2) → regE rs pk = 1 := fun q => by rw [if_pos q] at hreg; exact hreg
        conv => whnf
        refine .mk g hg (by omega) (by omega) ?_
        conv => whnf
        refine .hp (pc x) rfl (by rw [Int.toNat_natCast]; exact hp1.row hg hget) ?_
        conv => whnf
        refine br_dec (fun u2 => ?_) (fun u2 => ?_)
        · conv => whnf
          refine .done ⟨?_, l13⟩
          rw [bad (by omega)]; rfl
        conv => whnf
        refine br_dec (fun u3 => ?_) (fun u3 => ?_)
        · conv => whnf
          refine .done ⟨?_, l13⟩
          rw [bad (by omega)]; rfl
        conv => whnf
        refine br_dec (fun u4 => ?_) (fun u4 => ?_)
        · conv => whnf
          refine .done ⟨?_, l13⟩
          rw [bad (by omega)]; rfl
        conv => whnf
        refine br_dec (fun u5 => ?_) (fun u5 => ?_)
        · conv => whnf
          refine .done ⟨?_, l13⟩
          rw [bad (by omega)]; rfl
        rw [if_neg (by omega)] at hreg
        clear bad
        obtain ⟨gF, hgF⟩ := tF.ad (by omega)
        conv => whnf
        refine .mk gF hgF (by omega) (by omega) ?_
        conv => whnf
        refine .hp (iv p) (by rw [Int.toNat_natCast]; exact tF.one hgF (r := [iv p]) (by rw [List.getElem?_map, List.getElem?_eq_getElem (by omega), hpp]; rfl) rfl) ?_
        conv => whnf
        refine br_dec (fun u4 => ?_) (fun u4 => ?_)
        · rw [if_pos u4] at hreg
          conv => whnf
          refine .done ⟨?_, l13⟩
          rw [hreg]; rfl
        rw [if_neg u4] at hreg
        conv => whnf
        refine .ok (by omega) (by omega) ?_
        conv => whnf
        exact ⟨k + 1, rfl, rfl, ⟨rfl, by omega, hreg⟩, by omega⟩
      have hkm : k = pn := by omega
      subst hkm
      rw [List.drop_of_length_le (by omega)] at hreg
      have hreg : regE rs pk = 0 := by rw [hreg]; cases (pk.drop rs.length) <;> rfl
      have hin := regE_ok rs pk hreg (by omega)
      have hInR : ∀ x ∈ rs, InR x := fun x hx => by
        obtain ⟨i, hi, e⟩ := List.getElem_of_mem hx
        have := (hin i hi).1
        rw [List.getD_eq_getElem?_getD, List.getElem?_eq_getElem hi, e] at this
        exact this
      rw [if_neg (fun q => q hreg)]
      conv => whnf
      refine .mk _ (cells30 P k pcap rs h' hp1 (fun x hx => (hInR x hx).sm) (by omega)) ?_ ?_
      · rintro _ _ ⟨rfl, rfl⟩; exact Hp.le_refl _
      rintro _ h' ⟨rfl, rfl⟩
      conv => whnf
      refine br_dec (fun w => ?_) (fun w => ?_)
      · rw [if_pos w]
        conv => whnf
        exact .done ⟨rfl, l13⟩
      rw [if_neg w]
      conv => whnf
      refine br_dec (fun w2 => ?_) (fun w2 => ?_)
      · rw [if_pos w2]
        conv => whnf
        exact .done ⟨rfl, l13⟩
      rw [if_neg w2]
      conv => whnf
      subst hc2
      conv => whnf
      refine .mk Nat [4, 7, 15] (fun j => [.p 1 0, .v (.slice E ps.length c), .v (iv j)])
        (fun _ => [.own [.v (iv N), .v (.slice A arcs.length cap)] 24, .own [.v (.slice P k pcap), .v (iv t)] 30])
        (fun j h2 => h2 = h' ∧ j ≤ ps.length ∧ ps.any (hitR rs) = (ps.drop j).any (hitR rs)) (fun j => ps.length - j) 0 (fun _ => rfl) ⟨rfl, Nat.zero_le _, rfl⟩ rfl rfl ?_
      rintro j e2 h2 ⟨rfl, hj, hany⟩
      conv => whnf
      refine br_dec (fun u5 => ?_) (fun u5 => ?_)
      · have hj' : j < ps.length := by omega
        obtain ⟨g, hg⟩ := tE.ad (by omega)
        obtain ⟨p, hpp⟩ : ∃ p, p = ps[j] := ⟨_, rfl⟩
        have hget : (ps.map pc)[j]? = some (pc p) := by rw [List.getElem?_map, List.getElem?_eq_getElem hj', hpp]; rfl
        obtain ⟨⟨p1, p2⟩, p3, p4⟩ := hpm p (by rw [hpp]; exact List.getElem_mem hj')
        have d1 : ps.drop j = p :: ps.drop (j + 1) := by rw [hpp]; exact List.drop_eq_getElem_cons hj'
        rw [d1, List.any_cons] at hany
        obtain ⟨gR, hgR⟩ := hp1.ad (by omega)
        have hrow : ∀ i, i < rs.length → (rs.map pc)[i]? = some (pc (rs.getD i (0, 0))) := fun i hi => by
          rw [List.getElem?_map, List.getD_eq_getElem?_getD, List.getElem?_eq_getElem hi]; rfl
        have ldC : ∀ q v, (pc p)[q]? = some v → h2.cell? ((g.add ((j : Int).toNat * 2)).add q) = some v := fun q v hv => by
          rw [Int.toNat_natCast]; exact tE.row hg hget q v hv
        have ld0 := ldC 0 _ rfl
        have ld1 := ldC 1 _ rfl
        conv => whnf
        refine .mk g hg (by omega) (by omega) ?_
        conv => whnf
        refine .hp (iv p.1) ld0 ?_
        conv => whnf
        refine .mk gR hgR (by omega) (by omega) ?_
        conv => whnf
        refine .hp (pc (rs.getD p.1.toNat (0, 0))) rfl (hp1.row hgR (hrow _ (by omega))) ?_
        conv => whnf
        refine .mk g hg (by omega) (by omega) ?_
        conv => whnf
        refine .hp (iv p.2) ld1 ?_
        conv => whnf
        refine .mk gR hgR (by omega) (by omega) ?_
        conv => whnf
        refine .hp (pc (rs.getD p.2.toNat (0, 0))) rfl (hp1.row hgR (hrow _ (by omega))) ?_
        conv => whnf
        refine .mk _ (share36 _ _ h2 (hin _ (by omega)).1.sm (hin _ (by omega)).1.sm) ?_ ?_
        · rintro _ _ ⟨rfl, rfl⟩; exact Hp.le_refl _
        rintro _ _ ⟨rfl, rfl⟩
        have hhit : shareR (rs.getD p.1.toNat (0, 0)) (rs.getD p.2.toNat (0, 0)) = hitR rs p := rfl
        rw [hhit]
        cases hh : hitR rs p with
        | true =>
          rw [hh, Bool.true_or] at hany
          conv => whnf
          refine .done ⟨?_, l13⟩
          rw [if_pos hany]; rfl
        | false =>
          rw [hh, Bool.false_or] at hany
          conv => whnf
          refine .ok (by omega) (by omega) ?_
          conv => whnf
          exact ⟨j + 1, rfl, rfl, ⟨rfl, hj', hany⟩, by omega⟩
      · have : j = ps.length := by omega
        subst this
        rw [List.drop_length] at hany
        conv => whnf
        refine .done ⟨?_, l13⟩
        rw [if_neg (by rw [hany]; simp)]; rfl
    · have hh : homeOf N arcs zs = false := by simpa using hh
      rw [hh]
      have hE : lookE N arcs zs = 181 := by unfold lookE; rw [if_neg (fun q => q hal), if_neg (by rw [hh]; decide)]
      conv => whnf
      refine .done ⟨?_, l12⟩
      unfold checkE
      rw [hE]; rfl
  · obtain rfl := hb hal
    conv => whnf
    refine br_dec (fun _ => ?_) (fun q => absurd hal q)
    conv => whnf
    refine .done ⟨?_, l1⟩
    have hE : lookE N arcs zs = (along N arcs zs).1 := by unfold lookE; rw [if_pos hal]
    unfold checkE
    rw [hE, if_pos hal]; rfl
end Go.Sx
