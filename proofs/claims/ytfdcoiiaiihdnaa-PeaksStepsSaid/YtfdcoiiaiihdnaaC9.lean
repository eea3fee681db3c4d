/- Layer 18: beginnings of a list, and a list that comes home gone through twice: in plain words. Conditions: none. -/
import Derived.Test.YtfdcoiiaiihdnaaC8
namespace Go.Sx
def endOf (zs f : List Int) : List Int := zs.foldl (fun f v => bump f v.toNat) f
theorem alongR_append {N : Nat} {arcs : List Arc} {b : List Int} : ∀ (a f : List Int), (alongR N arcs a f).1 = 0 → alongR N arcs (a ++ b) f = ((alongR N arcs b (endOf a f)).1, (alongR N arcs a f).2 ++ (alongR N arcs b (endOf a f)).2)
  | [], f, _ => rfl
  | v :: a, f, h => by
    rw [alongR] at h
    rw [List.cons_append, alongR, alongR]
    by_cases h1 : v < 0 ∨ (N : Int) ≤ v
    · rw [if_pos h1] at h; cases h
    · rw [if_neg h1] at h ⊢
      rw [if_neg h1]
      by_cases h2 : may N arcs f v = true
      · rw [if_pos h2] at h ⊢
        rw [if_pos h2, alongR_append a _ h]
        rfl
      · rw [if_neg h2] at h; cases h
theorem alongR_take {N : Nat} {arcs : List Arc} : ∀ (zs f : List Int) (k : Nat), (alongR N arcs zs f).1 = 0 → alongR N arcs (zs.take k) f = (0, (alongR N arcs zs f).2.take k)
  | [], f, k, _ => by simp [alongR]
  | v :: zs, f, 0, _ => by simp [alongR]
  | v :: zs, f, k + 1, h => by
    rw [alongR] at h
    rw [List.take_succ_cons, alongR, alongR]
    by_cases h1 : v < 0 ∨ (N : Int) ≤ v
    · rw [if_pos h1] at h; cases h
    · rw [if_neg h1] at h ⊢
      rw [if_neg h1]
      by_cases h2 : may N arcs f v = true
      · rw [if_pos h2] at h ⊢
        rw [if_pos h2, alongR_take zs _ k h]
        rfl
      · rw [if_neg h2] at h; cases h
theorem alongR_all {N : Nat} {arcs : List Arc} : ∀ (zs f : List Int), (alongR N arcs zs f).1 = 0 → (alongR N arcs zs f).2.length = zs.length ∧ (toksOf arcs f :: (alongR N arcs zs f).2).getD zs.length [] = toksOf arcs (endOf zs f)
  | [], f, _ => ⟨rfl, rfl⟩
  | v :: zs, f, h => by
    rw [alongR] at h
    rw [alongR]
    by_cases h1 : v < 0 ∨ (N : Int) ≤ v
    · rw [if_pos h1] at h; cases h
    · rw [if_neg h1] at h ⊢
      by_cases h2 : may N arcs f v = true
      · rw [if_pos h2] at h ⊢
        obtain ⟨q1, q2⟩ := alongR_all zs _ h
        exact ⟨by simp [q1], by rw [List.length_cons, List.getD_cons_succ]; exact q2⟩
      · rw [if_neg h2] at h; cases h
theorem toks_bump {N : Nat} {arcs : List Arc} {f g : List Int} {v : Nat} (hs : chk N arcs = 0) (hf : f.length = N) (hg : g.length = N) (hv : v < N) (h : toksOf arcs f = toksOf arcs g) : toksOf arcs (bump f v) = toksOf arcs (bump g v) := by
  unfold toksOf at h ⊢
  refine List.map_congr_left fun a ha => ?_
  have hok := (chk_zero hs).2.2.2 a ha
  rw [tokOf_bump hok hf hv, tokOf_bump hok hg hv]
  have : tokOf f a = tokOf g a := List.map_inj_left.1 h a ha
  rw [this]
theorem alongR_toks {N : Nat} {arcs : List Arc} (hs : chk N arcs = 0) : ∀ (zs f g : List Int), f.length = N → g.length = N → toksOf arcs f = toksOf arcs g → alongR N arcs zs f = alongR N arcs zs g
  | [], f, g, _, _, _ => rfl
  | v :: zs, f, g, hf, hg, h => by
    rw [alongR, alongR]
    have hm : may N arcs f v = may N arcs g v := by unfold may; rw [h]
    rw [hm]
    by_cases h1 : v < 0 ∨ (N : Int) ≤ v
    · rw [if_pos h1, if_pos h1]
    · rw [if_neg h1, if_neg h1]
      have hb := toks_bump (v := v.toNat) hs hf hg (by omega) h
      rw [alongR_toks hs zs _ _ (by simp [bump, hf]) (by simp [bump, hg]) hb, hb]
theorem endOf_len : ∀ (zs f : List Int), (endOf zs f).length = f.length
  | [], f => rfl
  | v :: zs, f => by unfold endOf; rw [List.foldl_cons]; rw [show List.foldl (fun f v => bump f v.toNat) (bump f v.toNat) zs = endOf zs (bump f v.toNat) from rfl, endOf_len zs]; simp [bump]
theorem along_parts {N : Int} {arcs : List Arc} {zs : List Int} (h : (along N arcs zs).1 = 0) : chk N arcs = 0 ∧ zs.length ≤ 2048 ∧ (alongR N.toNat arcs zs (List.replicate N.toNat 0)).1 = 0 ∧ (along N arcs zs).2 = toksOf arcs (List.replicate N.toNat 0) :: (alongR N.toNat arcs zs (List.replicate N.toNat 0)).2 := by
  by_cases hs : chk N arcs = 0
  · by_cases hl : 2048 < zs.length
    · rw [along_long hs hl] at h; cases h
    · rw [along, if_pos hs, if_neg hl] at h ⊢
      exact ⟨hs, by omega, h, rfl⟩
  · rw [along_bad hs] at h; exact absurd h hs
theorem along_len {N : Int} {arcs : List Arc} {zs : List Int} (h : (along N arcs zs).1 = 0) : (along N arcs zs).2.length = zs.length + 1 := by
  obtain ⟨_, _, h3, h4⟩ := along_parts h
  rw [h4, List.length_cons, (alongR_all zs _ h3).1]
theorem along_take {N : Int} {arcs : List Arc} {zs : List Int} (h : (along N arcs zs).1 = 0) (k : Nat) : along N arcs (zs.take k) = (0, (along N arcs zs).2.take (k + 1)) := by
  obtain ⟨h1, h2, h3, h4⟩ := along_parts h
  rw [h4, along, if_pos h1, if_neg (by simp; omega), alongR_take zs _ k h3]
  rfl
theorem along_twice {N : Int} {arcs : List Arc} {zs : List Int} (h : (along N arcs zs).1 = 0) (hh : homeOf N arcs zs = true) (hl : zs.length ≤ 1024) :
    (along N arcs (zs ++ zs)).1 = 0 ∧ (along N arcs (zs ++ zs)).2.length = 2 * zs.length + 1 ∧ (along N arcs (zs ++ zs)).2.take (zs.length + 1) = (along N arcs zs).2 ∧ (along N arcs (zs ++ zs)).2.drop zs.length = (along N arcs zs).2 ∧
    ∀ x, x ∈ (along N arcs (zs ++ zs)).2 ↔ x ∈ (along N arcs zs).2 := by
  obtain ⟨h1, h2, h3, h4⟩ := along_parts h
  have hb := chk_zero h1
  obtain ⟨N, rfl⟩ : ∃ m : Nat, N = m := ⟨N.toNat, by omega⟩
  rw [Int.toNat_natCast] at h3 h4
  obtain ⟨q1, q2⟩ := alongR_all zs _ h3
  rw [home_rows h h4] at hh
  simp only [decide_eq_true_eq, List.length_cons, q1, Nat.add_sub_cancel] at hh
  rw [q2] at hh
  have hq : toksOf arcs (List.replicate N 0) = toksOf arcs (endOf zs (List.replicate N 0)) := hh
  have e1 := alongR_append (b := zs) zs _ h3
  rw [← alongR_toks h1 zs _ _ (by simp) (by rw [endOf_len]; simp) hq, h3] at e1
  have e2 : along N arcs (zs ++ zs) = (0, toksOf arcs (List.replicate N 0) :: ((alongR N arcs zs (List.replicate N 0)).2 ++ (alongR N arcs zs (List.replicate N 0)).2)) := by
    rw [along, if_pos h1, if_neg (by simp; omega), Int.toNat_natCast, e1]
  rw [e2, h4]
  generalize (alongR N arcs zs (List.replicate N 0)).2 = R at *
  refine ⟨rfl, by simp [q1]; omega, ?_, ?_, fun x => by simp⟩
  · show List.take _ (_ :: (R ++ R)) = _
    rw [← q1, List.take_succ_cons, List.take_left]
  · show List.drop _ (_ :: (R ++ R)) = _
    rw [← List.cons_append, List.drop_append_of_le_length (by simp [q1])]
    have hd : (toksOf arcs (List.replicate N 0) :: R).drop zs.length = [toksOf arcs (List.replicate N 0)] := by
      rw [List.drop_eq_getElem_cons (by simp [q1]), List.drop_eq_nil_of_le (by simp [q1])]
      rw [List.getD_eq_getElem?_getD, List.getElem?_eq_getElem (by simp [q1])] at q2
      have q3 : (toksOf arcs (List.replicate N 0) :: R)[zs.length]'(by simp [q1]) = toksOf arcs (endOf zs (List.replicate N 0)) := q2
      rw [q3, ← hq]
    rw [hd]; rfl
theorem maxes_same {n : Nat} {a b : List (List Int)} (ha : a ≠ []) (hb : b ≠ []) (hla : ∀ x ∈ a, x.length = n) (h : ∀ x, x ∈ a ↔ x ∈ b) : maxes a = maxes b := by
  have hlb : ∀ x ∈ b, x.length = n := fun x hx => hla x ((h x).2 hx)
  have l1 := maxes_len ha hla
  have l2 := maxes_len hb hlb
  refine List.ext_getElem (by omega) fun i h1 h2 => ?_
  have hi : i < n := by omega
  have e : ∀ l : List Int, (hl : i < l.length) → l[i] = l.getD i 0 := fun l hl => by rw [List.getD_eq_getElem?_getD, List.getElem?_eq_getElem hl]; rfl
  rw [e _ h1, e _ h2]
  obtain ⟨x, hx, ex⟩ := maxes_hit ha hi hla
  obtain ⟨y, hy, ey⟩ := maxes_hit hb hi hlb
  have g1 := maxes_ge hi hla y ((h y).2 hy)
  have g2 := maxes_ge hi hlb x ((h x).1 hx)
  omega
end Go.Sx
