/- Each operation: what its rule says is what the model does. Conditions: none. -/
import Derived.Test.YthibgmkobcbhhaaGreatSx6
namespace Go.Sx
open Go.RowKit
section
variable {P : Program} {h0 : Hp} {w0 : World} {n : Nat} {β : Nat → Nat} {L : List LE} {h : Hp} {e : Env} {a : Act} {w : World}

theorem wp_of_V {o : Oper} {V : SV → Prop} {next : Act → World → Prop} {Q : Exit → Act → World → Prop} (s : See β L h w) (hx : ∃ sv, V sv ∧ sv.ok L ∧ Yields P o a β L h sv) (hk : ∀ sv, sv.ok L → V sv → next (a.put o.dst (sv.c β)) w) : o.wp P a w next Q := by
  obtain ⟨sv, h1, h2, h3⟩ := hx
  exact wp_value (h3 w s) (hk sv h2 h1)

theorem new_own {o : Oper} {K : KT} {next : Act → World → Prop} {Q : Exit → Act → World → Prop} {C : (Nat → Nat) → Prop} (hC : ∀ β', (∀ i, i < L.length → β' i = β i) → C β') (ho : Out h0 w0 n C K next) (m : Mem h0 w0 β L h w) (r : Rel n β L e a) (hL : OkL L) {cells : List SV} (hc : ∀ x ∈ cells, x.ok1 L) {ty : Nat}
    {sv : SV} (hsv : ∀ β', β' L.length = w.heap.size → (execOp a.eval o).run P w = .ok (.value (sv.c β')) { w with heap := w.heap.push (.cells (cells.map (SV.c1 β)).toArray ty) })
    (hok : sv.ok (L ++ [.own cells ty])) (hp : putS n o.dst sv e (L ++ [.own cells ty]) h K) : o.wp P a w next Q := by
  obtain ⟨β', b1, b2, m'⟩ := m.push hL hc ty
  exact wp_value (hsv β' b2) (putS_sound ho (hC β' b1) m' (r.agree (fun i hi => b1 i (refOk_lt hi)) (fun i => refOk_snoc _)) (hL.push hc ty) hok hp)

theorem ok_map_v (zs : List Value) : ∀ x ∈ zs.map SV.v, x.ok1 L := by
  intro x hx
  obtain ⟨v, _, rfl⟩ := List.mem_map.1 hx
  trivial

theorem exec_alloc {o : Oper} {t : TypeId} {i : TypeInfo} {z : Value} (hop : o.op = .alloc t) (hi : P.info? t = some i) (hz : i.zero = some z) {K : KT} {next : Act → World → Prop} {Q : Exit → Act → World → Prop} {C : (Nat → Nat) → Prop} (hC : ∀ β', (∀ i, i < L.length → β' i = β i) → C β') (ho : Out h0 w0 n C K next)
    (m : Mem h0 w0 β L h w) (r : Rel n β L e a) (hL : OkL L) (hp : wpK P n (.alloc t z.cells.toList) o.dst e L h K) : o.wp P a w next Q := by
  simp only [wpK, forceN_eq, forceL_eq] at hp
  refine new_own hC ho m r hL (cells := z.cells.toList.map .v) (ty := t) (ok_map_v _) (sv := .p L.length 0) (fun β' hb => ?_) (refOk_new _ _) hp
  rw [c1_vs]
  simp [execOp, hop, Instr.alloc, zeroValue, typeInfo, hi, hz, newVar, newRow, SV.c, SV.c1, hb]

theorem cellsOf_ok {x : SV} {cs : List SV} (hx : cellsOf x = some cs) (hk : x.ok L) : ∀ y ∈ cs, y.ok1 L := by
  cases x with
  | a xs => injection hx with hx; subst hx; exact hk
  | v y =>
    cases y with
    | agg as => injection hx with hx; subst hx; exact ok_map_v _
    | tuple as => cases hx
    | _ => injection hx with hx; subst hx; intro y hy; rw [List.mem_singleton.1 hy]; trivial
  | _ => injection hx with hx; subst hx; intro y hy; rw [List.mem_singleton.1 hy]; exact hk

theorem exec_box {o : Oper} {t : TypeId} {x : Operand} (hop : o.op = .box t x) {K : KT} {next : Act → World → Prop} {Q : Exit → Act → World → Prop} {C : (Nat → Nat) → Prop} (hC : ∀ β', (∀ i, i < L.length → β' i = β i) → C β') (ho : Out h0 w0 n C K next)
    (m : Mem h0 w0 β L h w) (r : Rel n β L e a) (hL : OkL L) (hp : wpK P n (.box t (lowArg x)) o.dst e L h K) : o.wp P a w next Q := by
  simp only [wpK, forceN_eq, forceL_eq] at hp
  split at hp
  · rename_i cs hcs
    refine new_own hC ho m r hL (cells := cs) (ty := t) (cellsOf_ok hcs (r.okArg x)) (sv := .p L.length 0) (fun β' hb => ?_) (refOk_new _ _) hp
    have := cellsOf_c (β := β) hcs
    simp [execOp, hop, r.eval x, Instr.box, newVar, newRow, SV.c1, SV.c, hb, ← this]
  · exact hp.elim

theorem repS_c : ∀ (k : Nat) (z : List Value), (repS k z).map (SV.c1 β) = (List.replicate k z).flatten
  | 0, z => rfl
  | k + 1, z => by rw [repS, List.map_append, c1_vs, repS_c k z, List.replicate_succ, List.flatten_cons]
theorem repS_ok : ∀ (k : Nat) (z : List Value), ∀ x ∈ repS k z, x.ok1 L
  | 0, z, x, hx => by cases hx
  | k + 1, z, x, hx => by
    simp only [repS, List.mem_append] at hx
    rcases hx with hx | hx
    · exact ok_map_v _ x hx
    · exact repS_ok k z x hx

/-- the model's own filling -/
theorem foldl_set : ∀ (ys : List Value) (cs : Array Value) (off k : Nat), off + k + ys.length ≤ cs.size →
    ((ys.zipIdx k).foldl (fun cs (x : Value × Nat) => cs.setIfInBounds (off + x.2) x.1) cs).toList = cs.toList.take (off + k) ++ ys ++ cs.toList.drop (off + k + ys.length)
  | [], cs, off, k, h => by simp
  | y :: ys, cs, off, k, h => by
    simp only [List.zipIdx_cons, List.foldl_cons]
    rw [foldl_set ys _ off (k + 1) (by simp at h ⊢; omega)]
    simp only [Array.toList_setIfInBounds, List.length_cons] at h ⊢
    have hk : off + k < cs.toList.length := by simp; omega
    rw [show off + (k + 1) = off + k + 1 by omega, List.take_set, List.drop_set, if_pos (by omega)]
    rw [List.set_eq_take_append_cons_drop]
    simp only [List.length_take]
    rw [if_pos (by omega)]
    simp only [List.take_take, List.drop_take]
    rw [show min (off + k) (off + k + 1) = off + k by omega, show off + k + 1 - (off + k + 1) = 0 by omega]
    simp
    omega
theorem over_take {α : Type} : ∀ (off : Nat) (l ys r : List α), over l off ys = some r → r = l.take off ++ ys ++ l.drop (off + ys.length)
  | 0, l, [], r, h => by simp [over] at h; subst h; simp
  | 0, [], y :: ys, r, h => by simp [over] at h
  | 0, x :: l, y :: ys, r, h => by
    simp only [over] at h
    split at h
    · rename_i r' hr
      injection h with h; subst h
      have := over_take 0 l ys r' hr
      simp at this ⊢
      exact this
    · cases h
  | off + 1, [], ys, r, h => by simp [over] at h
  | off + 1, x :: l, ys, r, h => by
    simp only [over] at h
    split at h
    · rename_i r' hr
      injection h with h; subst h
      have := over_take off l ys r' hr
      rw [this, show off + 1 + ys.length = off + ys.length + 1 by omega]
      simp
    · cases h

theorem fill_c {T : Type} (place : Nat → Option (Nat × Nat)) (f : T → Nat × SV) (g : T → Nat × Nat × SV) : ∀ (xs : List T) (cs r : List SV), (∀ x ∈ xs, place (f x).1 = some ((g x).1, (g x).2.1) ∧ (f x).2 = (g x).2.2) →
    fillS cs (xs.map g) = some r → Instr.fill place (cs.map (SV.c1 β)).toArray (xs.map fun x => ((f x).1, (f x).2.c β)) = some (r.map (SV.c1 β)).toArray
  | [], cs, r, hf, hs => by
    simp only [List.map_nil, fillS] at hs
    injection hs with hs; subst hs
    simp [Instr.fill]
  | p :: ps, cs, r, hf, hs => by
    obtain ⟨g1, g2⟩ := hf p (List.mem_cons_self ..)
    have h2 := fun x hx => hf x (List.mem_cons_of_mem p hx)
    rw [List.map_cons] at hs
    generalize hq : g p = q at hs g1 g2
    obtain ⟨off, size, x⟩ := q
    simp only [fillS] at hs
    split at hs
    · rename_i ys hys
      cases hb : Nat.beq ys.length size with
      | false => rw [hb] at hs; cases hs
      | true =>
        rw [hb] at hs
        simp only [cond_true] at hs
        split at hs
        · rename_i cs' hcs'
          have hl : ys.length = size := Nat.eq_of_beq_eq_true hb
          have hc := cellsOf_c (β := β) hys
          simp only at g1 g2
          have hlen := over_len _ _ _ _ hcs'
          have hsz : ((f p).2.c β).cells.size = size := by rw [g2, ← hl, ← Array.length_toList, hc]; simp
          simp only [List.map_cons, Instr.fill, g1]
          rw [if_neg (by
            rw [hsz]; simp
            have := hlen.2.1; omega)]
          rw [g2, show ((x.c β).cells.zipIdx).foldl (fun cs (x : Value × Nat) => cs.setIfInBounds (off + x.2) x.1) (cs.map (SV.c1 β)).toArray = (cs'.map (SV.c1 β)).toArray from ?_]
          · exact fill_c place f g ps cs' r h2 hs
          · apply Array.ext'
            rw [← Array.foldl_toList, Array.toList_zipIdx, hc]
            rw [foldl_set _ _ off 0 (by simp; have := hlen.2.1; omega)]
            have := over_take _ _ _ _ (over_map (SV.c1 β) _ _ _ _ hcs')
            simp only [Nat.add_zero]
            rw [this]
        · cases hs
    · cases hs
theorem fillS_ok : ∀ (qs : List (Nat × Nat × SV)) (cs r : List SV), fillS cs qs = some r → (∀ x ∈ cs, x.ok1 L) → (∀ q ∈ qs, q.2.2.ok L) → ∀ x ∈ r, x.ok1 L
  | [], cs, r, hs, hc, _ => by simp only [fillS] at hs; injection hs with hs; subst hs; exact hc
  | (off, size, y) :: qs, cs, r, hs, hc, hq => by
    simp only [fillS] at hs
    split at hs
    · rename_i ys hys
      cases hb : Nat.beq ys.length size with
      | false => rw [hb] at hs; cases hs
      | true =>
        rw [hb] at hs
        simp only [cond_true] at hs
        split at hs
        · rename_i cs' hcs'
          refine fillS_ok qs cs' r hs (fun x hx => ?_) fun q hq' => hq q (by simp [hq'])
          rcases over_mem hcs' hx with hx | hx
          · exact hc x hx
          · exact cellsOf_ok hys (hq _ (List.mem_cons_self ..)) x hx
        · cases hs
    · cases hs
end
end Go.Sx
