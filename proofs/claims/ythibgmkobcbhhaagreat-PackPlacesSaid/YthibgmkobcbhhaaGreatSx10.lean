/- append, make and each kind of operation together. Conditions: none. -/
import Derived.Test.YthibgmkobcbhhaaGreatSx9
import Derived.ChangeKeysEq
namespace Go.Sx
open Go.RowKit
section
variable {P : Program} {h0 : Hp} {w0 : World} {n : Nat} {β : Nat → Nat} {L : List LE} {h : Hp} {e : Env} {a : Act} {w : World}

theorem elemOk_spec {t s b : Nat} {zs : List Value} (hx : elemOk P t = some (s, b, zs)) : ∃ i z, P.info? t = some i ∧ i.zero = some z ∧ i.size = s ∧ i.bytes = b ∧ z.cells.size = s ∧ 0 < s ∧ zs = z.cells.toList := by
  unfold elemOk at hx
  split at hx
  · rename_i i hi
    split at hx
    · rename_i z hz
      split at hx
      · rename_i hc
        injection hx with hx
        injection hx with h1 hx
        injection hx with h2 h3
        simp only [Bool.and_eq_true] at hc
        exact ⟨i, z, hi, hz, h1, h2, (Nat.eq_of_beq_eq_true hc.1).trans h1, by rw [← h1]; exact Nat.le_of_ble_eq_true hc.2, h3.symm⟩
      · cases hx
    · cases hx
  · cases hx

theorem exec_append {o : Oper} {t el s b : Nat} {zs : List Value} {x y : Operand} (hop : o.op = .call { callee := .builtin .append, args := #[x, y], argTypes := #[t, t] }) (hu : P.underlying t = some (.slice el)) (he : elemOk P el = some (s, b, zs))
    {K : KT} {next : Act → World → Prop} {Q : Exit → Act → World → Prop} (ho : Out h0 w0 n Any K next)
    (m : Mem h0 w0 β L h w) (r : Rel n β L e a) (hL : OkL L) (hp : wpK P n (.append t el s b zs (lowArg x) (lowArg y)) o.dst e L h K) : o.wp P a w next Q := by
  obtain ⟨i, z, hi, hz, e1, e2, e3, e4, e5⟩ := elemOk_spec he
  have hx := r.eval x
  have hy := r.eval y
  -- the common end
  have fin : ∀ (β1 : Nat → Nat) (L1 : List LE) (h1 : Hp) (A B : Option Addr) (k cap q c : Nat) (S : List Value → Prop), Mem h0 w0 β1 L1 h1 w → Rel n β1 L1 e a → OkL L1 → a.eval x = .slice A k cap → a.eval y = .slice B q c →
      (∀ vs, S vs → SrcW w s B q vs) → EvAppendK el s b A k cap q S L1 (fun x L => putS n o.dst x e L h1 K) → o.wp P a w next Q := by
    intro β1 L1 h1 A B k cap q c S m1 r1 hL1 hxA hyB hS hev
    obtain ⟨A', cap', n', β', L', w', hrun, hK, m', hL', href, hβ'⟩ := evappK_sound (P := P) (ty := o.type) (c := c) hu hi hz e1 e2 e3 e4 m1 hL1 hS hev
    refine wp_value (v := .slice A' n' cap') (w' := w') (by simp [execOp, hop, resolve, invoke, builtin, hxA, hyB, hrun]) ?_
    exact putS_sound ho trivial m' (r1.agree hβ' href) hL' (x := .v _) trivial hK
  -- given the target
  have app : ∀ (β1 : Nat → Nat) (L1 : List LE) (A : Option Addr) (k cap : Nat), Mem h0 w0 β1 L1 h w → Rel n β1 L1 e a → OkL L1 → a.eval x = .slice A k cap → a.eval y = ((lowArg y).get e).c β1 →
      wpApp n el s b A k cap ((lowArg y).get e) o.dst e L1 h K → o.wp P a w next Q := by
    intro β1 L1 A k cap m1 r1 hL1 hxA hyy hw
    unfold wpApp at hw
    split at hw
    · rename_i B q c hq
      obtain ⟨β2, L2, h2, k2, m2, hL2, ref2, hβ2⟩ := shift_sound hw β1 m1 hL1
      exact fin β2 L2 h2 A B k cap q c _ m2 (r1.agree hβ2 ref2) hL2 hxA (by rw [hyy, hq]; rfl) (fun vs hs => src_w m2.see hs) k2
    · rename_i j off q c hq
      split at hw
      · rename_i cs ty hj
        split at hw
        · rename_i rr hsub
          obtain ⟨L3, h3, hw3, m3, hL3, ref3, _⟩ := pubs_sound rr _ _ _ m1 hL1 hw
          split at hw3
          · rename_i vs hvs
            obtain ⟨hs1, hs2⟩ := sub_eq _ _ _ _ hsub
            have hc := raws_c m3.see rr vs hvs
            have hsrc : SrcW w s (some ⟨β1 j, off, none⟩) q vs := by
              refine ⟨by rw [← hc]; simp [hs2], .inr ⟨_, rfl, fun p v ev => ?_⟩⟩
              rw [← hc, List.getElem?_map, Option.map_eq_some_iff] at ev
              obtain ⟨u, hu', rfl⟩ := ev
              rw [add_lit]
              refine sees_cell m1.see hj ?_
              rw [hs1, List.getElem?_take] at hu'
              split at hu'
              · simpa [List.getElem?_drop] using hu'
              · cases hu'
            obtain ⟨β2, L2, h2, k2, m2, hL2, ref2, hβ2⟩ := shift_sound hw3 β1 m3 hL3
            exact fin β2 L2 h2 A _ k cap q c _ m2 ((r1.agree (fun _ _ => rfl) ref3).agree hβ2 ref2) hL2 hxA (by rw [hyy, hq]; exact congrArg (fun x => Value.slice (some ⟨x, off, none⟩) q c) (hβ2 j (ref3 j ⟨_, hj, rfl⟩)).symm) (fun vs' hs => by rw [show vs' = vs from hs, hβ2 j (ref3 j ⟨_, hj, rfl⟩)]; exact hsrc) k2
          · exact hw3.elim
        · exact hw.elim
      · exact hw.elim
    · exact hw.elim
  simp only [wpK] at hp
  split at hp
  · rename_i A k cap hq
    exact app β L A k cap m r hL (by rw [hx, hq]; rfl) hy hp
  · rename_i l k cap hq
    split at hp
    · rename_i cs ty hj
      cases hb : (Nat.beq cs.length (cap * s) && Nat.ble k cap && Nat.beq ty el && Nat.ble cap 9223372036854775807) with
      | false => rw [hb] at hp; exact hp.elim
      | true =>
        rw [hb] at hp
        simp only [Bool.and_eq_true] at hb
        obtain ⟨⟨⟨hb1, hb2⟩, hb3⟩, hb4⟩ := hb
        have hb1 := Nat.eq_of_beq_eq_true hb1
        have hb2 := Nat.le_of_ble_eq_true hb2
        have hb3 := Nat.eq_of_beq_eq_true hb3
        have hb4 := Nat.le_of_ble_eq_true hb4
        subst hb3
        simp only [cond_true] at hp
        split at hp
        · rename_i vs hvs
          obtain ⟨kk⟩ := hp
          have hhole := m.hole l _ hj rfl
          have hk2 := kk (β l) hhole
          have hcs := raws_c m.see cs vs hvs
          have hobj := m.see.see l _ hj
          simp only [LE.sees, hcs] at hobj
          obtain ⟨m1, ref1⟩ := m.give (l' := .gone) hj rfl rfl rfl trivial hobj
          have hL1 := hL.setOther (nth_lt hj) ref1 (fun _ _ e => by cases e)
          have hlen : vs.length = cap * s := by rw [← hcs]; simp [hb1]
          have hle : k * s ≤ cap * s := Nat.mul_le_mul_right s hb2
          have hrow : RowAt (h.put (β l) (.cells vs.toArray ty (0, 0))) ty s (some ⟨β l, 0, none⟩) k cap (vs.take (k * s)) :=
            ⟨by rw [List.length_take, hlen]; omega, .inr ⟨β l, vs.toArray, rfl, Hp.put_same _ _ _, hb2, by simpa [maxLen] using hb4, by simpa using hlen, rfl⟩⟩
          obtain ⟨β2, L2, h2, ⟨rfl, rfl⟩, m2, hL2, ref2, hβ2⟩ := shift_sound (K := fun L2 h2 => L2 = setn L l .gone ++ [.row ty s (some ⟨β l, 0, none⟩) k cap (vs.take (k * s))] ∧ h2 = delA (h.put (β l) (.cells vs.toArray ty (0, 0))) (some ⟨β l, 0, none⟩))
            (.abs ty s (some ⟨β l, 0, none⟩) k cap (vs.take (k * s)) hrow (.done ⟨rfl, rfl⟩)) β m1 hL1
          have hdel : delA (h.put (β l) (.cells vs.toArray ty (0, 0))) (some ⟨β l, 0, none⟩) = h := by
            funext j
            simp only [delA, Hp.del, Hp.put]
            by_cases e : j = β l
            · rw [if_pos e, e, hhole]
            · rw [if_neg e, if_neg e]
          rw [hdel] at m2
          have r2 := (r.agree (fun _ _ => rfl) ref1).agree hβ2 ref2
          exact app β2 _ _ k cap m2 r2 hL2 (by rw [hx, hq]; rfl) (r2.eval y) hk2
        · exact hp.elim
    · exact hp.elim
  · exact hp.elim

theorem exec_mkslice {o : Oper} {t el s b : Nat} {zs : List Value} {x y : Operand} (hop : o.op = .makeSlice t x y) (hu : P.underlying t = some (.slice el)) (he : elemOk P el = some (s, b, zs))
    {K : KT} {next : Act → World → Prop} {Q : Exit → Act → World → Prop} {C : (Nat → Nat) → Prop} (hC : ∀ β', (∀ i, i < L.length → β' i = β i) → C β') (ho : Out h0 w0 n C K next)
    (m : Mem h0 w0 β L h w) (r : Rel n β L e a) (hL : OkL L) (hp : wpK P n (.mkslice t el s b zs (lowArg x) (lowArg y)) o.dst e L h K) : o.wp P a w next Q := by
  obtain ⟨i, z, hi, hz, e1, e2, e3, e4, e5⟩ := elemOk_spec he
  have hx := r.eval x
  have hy := r.eval y
  simp only [wpK] at hp
  split at hp
  · rename_i zl zc hq1 hq2
    have key : ∀ (k c : Nat) (xs : List Value), zl = k → zc = c → c * b ≤ 281474976710656 → c ≤ 9223372036854775807 → k ≤ c → (∀ cs : Array Value, cs = madeCells z.cells (c * s) → xs.length = k * s ∧ cs.toList.take (k * s) = xs) →
        (∀ g, putS n o.dst (.v (.slice (some g) k c)) e (L ++ [.row el s (some g) k c xs]) h K) → o.wp P a w next Q := by
      rintro k c xs rfl rfl hb hm hkc hxs kk
      have hr := run_make (P := P) w t el i z hu hi hz .i64 .i64 k c (by omega) (by omega) (by have : ((c * b : Nat) : Int) ≤ 281474976710656 := Int.ofNat_le.2 hb; rw [e2, Int.mul_comm]; rwa [Int.natCast_mul] at this) (by omega)
      simp only [Int.toNat_natCast] at hr
      obtain ⟨q1, q2⟩ := hxs _ rfl
      rw [← e1] at q2
      have hown : (w.alloc (.cells (madeCells z.cells (c * i.size)) el)).ownsRow 0 el s (.slice (some ⟨w.heap.size, 0, none⟩) k c) k xs :=
        ⟨q1, .inr ⟨w.heap.size, c, _, rfl, Nat.zero_le _, heap_alloc_new w _, hkc, by simpa [maxLen] using hm, by rw [size_madeCells, e1], by rw [← e1]; exact q2⟩⟩
      have hg := World.grownBy_alloc w (.cells (madeCells z.cells (c * i.size)) el) none
      obtain ⟨m1, hL1⟩ := m.nilRow hL el s
      have hj : nth (L ++ [LE.row el s none 0 0 []]) L.length = some (.row el s none 0 0 []) := by rw [nth_snoc]; simp
      obtain ⟨β', b1, m', href, b3⟩ := m1.grow hL1 hj (w' := w.alloc (.cells (madeCells z.cells (c * i.size)) el)) (by simpa [Value.ownBlock] using hg) hown (.inr rfl)
      have b2 : ∀ i, i < L.length → β' i = β i := fun i hi => b3 i (by omega)
      have hset : ∀ y : LE, setn (L ++ [LE.row el s none 0 0 []]) L.length y = L ++ [y] := fun y => by
        rw [setn_eq, List.set_append_right _ _ (Nat.le_refl _)]; simp
      have hL' := hL1.setOther (nth_lt hj) href (fun _ _ e => by cases e)
      rw [hset] at m' href hL'
      refine wp_value (v := .slice (some ⟨w.heap.size, 0, none⟩) k c) (w' := w.alloc (.cells (madeCells z.cells (c * i.size)) el)) (by simp [execOp, hop, hx, hy, hq1, hq2, SV.c, SV.c1, hr]) ?_
      exact putS_sound ho (hC β' b2) m' (r.agree (fun j hj => b1 j (refOk_snoc _ hj)) (fun j hj => href j (refOk_snoc _ hj))) hL' (x := .v _) trivial (kk ⟨w.heap.size, 0, none⟩)
    have e5' : zs.toArray = z.cells := by rw [e5]
    have full : ∀ (k : Nat) (cs : Array Value), cs = madeCells z.cells (k * s) → (madeCells zs.toArray (k * s)).toList.length = k * s ∧ cs.toList.take (k * s) = (madeCells zs.toArray (k * s)).toList := by
      rintro k cs rfl
      rw [e5']
      have : (madeCells z.cells (k * s)).toList.length = k * s := by rw [Array.length_toList, size_madeCells]
      exact ⟨this, List.take_of_length_le (by omega)⟩
    cases hp with
    | mk k hl hc hb hm kk => exact key k k _ hl hc hb hm (Nat.le_refl _) (full k) kk
    | one k z' hz' hs hl hc hb hm kk =>
      refine key k k _ hl hc hb hm (Nat.le_refl _) (full k) fun g => ?_
      rw [hz', hs, Nat.mul_one, show [z'].toArray = #[z'] from rfl, toList_madeCells_one, ← hs]
      exact kk g
    | room c hl hc hb hm kk => exact key 0 c [] hl hc hb hm (Nat.zero_le _) (fun cs _ => by simp) kk
  · exact hp.elim

theorem fldOf_spec {t i : Nat} {f : Field} (hf : fldOf P t i = some f) : ∃ fs, P.underlying t = some (.struct fs) ∧ fs[i]? = some f := by
  unfold fldOf at hf
  split at hf
  · exact ⟨_, by assumption, hf⟩
  · cases hf

theorem lowBuild_spec {t : Nat} {fs : Array Field} (hu : P.underlying t = some (.struct fs)) : ∀ (ps : List (Nat × Operand)) (l : List (Nat × Nat × Arg)), lowBuild P t ps = some l →
    ∃ g : Nat × Operand → Nat × Nat × Arg, l = ps.map g ∧ ∀ p ∈ ps, (g p).2.2 = lowArg p.2 ∧ ∃ f, fs[p.1]? = some f ∧ (g p).1 = f.offset ∧ (g p).2.1 = tySize P f.type := by
  intro ps
  suffices h : ∀ (l : List (Nat × Nat × Arg)), lowBuild P t ps = some l → l = ps.map (fun p => ((match fs[p.1]? with | some f => f.offset | none => 0), (match fs[p.1]? with | some f => tySize P f.type | none => 0), lowArg p.2)) ∧ ∀ p ∈ ps, ∃ f, fs[p.1]? = some f by
    intro l hl
    obtain ⟨h1, h2⟩ := h l hl
    refine ⟨_, h1, fun p hp => ⟨rfl, ?_⟩⟩
    obtain ⟨f, hf⟩ := h2 p hp
    exact ⟨f, hf, by simp [hf], by simp [hf]⟩
  induction ps with
  | nil => intro l hl; simp only [lowBuild] at hl; injection hl with hl; subst hl; exact ⟨rfl, fun p hp => by cases hp⟩
  | cons q ps ih =>
    intro l hl
    obtain ⟨j, x⟩ := q
    simp only [lowBuild] at hl
    split at hl
    · rename_i f hf
      obtain ⟨fs', hu', hfi⟩ := fldOf_spec hf
      rw [hu] at hu'; injection hu' with hu'; injection hu' with hu'; subst hu'
      split at hl
      · rename_i l' _ hl'
        injection hl with hl; subst hl
        obtain ⟨h1, h2⟩ := ih l' hl'
        refine ⟨by rw [List.map_cons, ← h1]; simp [hfi], fun p hp => ?_⟩
        rcases List.mem_cons.1 hp with rfl | hp
        · exact ⟨f, hfi⟩
        · exact h2 p hp
      · cases hl
    · cases hl

theorem execV_build (r : Rel n β L e a) {o : Oper} {t : TypeId} {i : TypeInfo} {z : Value} {ps : Array (Nat × Operand)} {l : List (Nat × Nat × Arg)} (hop : o.op = .build t ps) (hi : P.info? t = some i) (hz : i.zero = some z) (hs : structOk P t = true)
    (hl : lowBuild P t ps.toList = some l) {V : SV → Prop} (hv : wpV (.build z.cells.toList l) e L h V) : ∃ sv, V sv ∧ sv.ok L ∧ Yields P o a β L h sv := by
  unfold structOk at hs
  split at hs
  · rename_i fs hu
    obtain ⟨g, hg, hgp⟩ := lowBuild_spec hu _ _ hl
    simp only [wpV] at hv
    split at hv
    · rename_i cs hcs
      have hall : ∀ f ∈ fs.toList, tyOk P f.type = true := List.all_eq_true.1 hs
      refine ⟨_, hv, ?_, fun w hw => ?_⟩
      · show ∀ x ∈ cs, x.ok1 L
        refine fillS_ok _ _ _ hcs (ok_map_v _) fun q hq => ?_
        rw [hg, List.map_map] at hq
        obtain ⟨p, hp, rfl⟩ := List.mem_map.1 hq
        simp only [Function.comp]
        rw [(hgp p hp).1]
        exact r.okArg p.2
      · rw [hg, List.map_map] at hcs
        have hplaces : (fs.mapM fun f => (do pure (f.offset, ← sizeOf f.type) : Sem (Nat × Nat))).run P w = .ok (fs.map fun f => (f.offset, tySize P f.type)) w := by
          rw [Array.mapM_eq_mapM_toList]
          have key : ∀ l : List Field, (∀ f ∈ l, tyOk P f.type = true) → (l.mapM fun f => (do pure (f.offset, ← sizeOf f.type) : Sem (Nat × Nat))).run P w = .ok (l.map fun f => (f.offset, tySize P f.type)) w := by
            intro l
            induction l with
            | nil => intro _; simp
            | cons f l ih =>
              intro hf
              obtain ⟨j, hj⟩ := tyOk_info (hf f (List.mem_cons_self ..))
              simp only [List.mapM_cons, Sem.run_bind, run_sizeOf hj, Result.andThen_ok, Sem.run_pure, ih fun f' hf' => hf f' (List.mem_cons_of_mem _ hf'), List.map_cons, tySize_of hj]
          simp only [Sem.run_map, key fs.toList hall, Result.andThen_ok]
          exact congrArg (fun z => Result.ok z w) (Array.ext' (by simp))
        have hf := fill_c (β := β) (fun j => (fs.map fun f => (f.offset, tySize P f.type))[j]?) (fun p : Nat × Operand => (p.1, (lowArg p.2).get e)) (fun p => ((g p).1, (g p).2.1, Arg.get e (g p).2.2)) ps.toList (z.cells.toList.map .v) cs (fun p hp => by
          obtain ⟨h1, f, h2, h3, h4⟩ := hgp p hp
          refine ⟨?_, by rw [h1]⟩
          simp [h2, h3, h4]) hcs
        have hfe : (List.map (fun x : Nat × Operand => (x.1, SV.c β (Arg.get e (lowArg x.2)))) ps.toList) = (List.map (fun x : Nat × Operand => (x.1, a.eval x.2)) ps.toList) :=
          List.map_congr_left fun p _ => by rw [r.eval p.2]
        simp only at hf
        rw [hfe, c1_vs] at hf
        have hz' : z.cells.toList.toArray = z.cells := by simp
        rw [hz'] at hf
        simp only [execOp, hop, Instr.build, Sem.run_bind, zeroValue, typeInfo, run_program, Result.andThen_ok, hi, Sem.run_pure, hz, run_underlying hu, hplaces, Array.toList_map]
        rw [hf]
        rfl
    · exact hv.elim
  · cases hs

theorem execV_buildA (r : Rel n β L e a) {o : Oper} {t : TypeId} {i : TypeInfo} {z : Value} {ps : Array (Nat × Operand)} {l : List (Nat × Nat × Arg)} (hop : o.op = .build t ps) (hi : P.info? t = some i) (hz : i.zero = some z)
    (hl : lowBuildA P t ps.toList = some l) {V : SV → Prop} (hv : wpV (.build z.cells.toList l) e L h V) : ∃ sv, V sv ∧ sv.ok L ∧ Yields P o a β L h sv := by
  unfold lowBuildA at hl
  split at hl
  · rename_i m el hu
    split at hl
    · rename_i hte
      injection hl with hl
      subst hl
      obtain ⟨j, hj⟩ := tyOk_info hte
      rw [tySize_of hj] at hv
      simp only [wpV] at hv
      split at hv
      · rename_i cs hcs
        refine ⟨_, hv, ?_, fun w hw => ?_⟩
        · show ∀ x ∈ cs, x.ok1 L
          refine fillS_ok _ _ _ hcs (ok_map_v _) fun q hq => ?_
          rw [List.map_map] at hq
          obtain ⟨p, hp, rfl⟩ := List.mem_map.1 hq
          exact r.okArg p.2
        · rw [List.map_map] at hcs
          have hf := fill_c (β := β) (fun i => some (i * j.size, j.size)) (fun p : Nat × Operand => (p.1, (lowArg p.2).get e)) (fun p => (p.1 * j.size, j.size, Arg.get e (lowArg p.2))) ps.toList (z.cells.toList.map .v) cs (fun p hp => ⟨rfl, rfl⟩) hcs
          have hfe : (List.map (fun x : Nat × Operand => (x.1, SV.c β (Arg.get e (lowArg x.2)))) ps.toList) = (List.map (fun x : Nat × Operand => (x.1, a.eval x.2)) ps.toList) :=
            List.map_congr_left fun p _ => by rw [r.eval p.2]
          simp only at hf
          rw [hfe, c1_vs] at hf
          have hz' : z.cells.toList.toArray = z.cells := by simp
          rw [hz'] at hf
          simp only [execOp, hop, Instr.build, Sem.run_bind, zeroValue, typeInfo, run_program, Result.andThen_ok, hi, Sem.run_pure, hz, run_underlying hu, run_sizeOf hj, Array.toList_map]
          rw [hf]
          rfl
      · exact hv.elim
    · cases hl
  · cases hl

theorem execV_neg (r : Rel n β L e a) {o : Oper} {t : TypeId} {x : Operand} (hop : o.op = .unOp .neg t x) {V : SV → Prop}
    (hv : wpV (.neg (lowArg x)) e L h V) : ∃ sv, V sv ∧ sv.ok L ∧ Yields P o a β L h sv := by
  have hx := r.eval x
  simp only [wpV] at hv
  split at hv
  · rename_i b hp
    exact ⟨_, hv.out, trivial, fun w hw => by simp [execOp, hop, hx, hp, SV.c, SV.c1, Op.unary, Op.intArith]⟩
  · exact hv.elim

theorem execV_minmax (r : Rel n β L e a) {o : Oper} {mx : Bool} {tys : Array TypeId} {x y : Operand} (hop : o.op = .call { callee := .builtin (if mx then .max else .min), args := #[x, y], argTypes := tys }) {V : SV → Prop}
    (hv : wpV (.minmax mx (lowArg x) (lowArg y)) e L h V) : ∃ sv, V sv ∧ sv.ok L ∧ Yields P o a β L h sv := by
  have hx := r.eval x
  have hy := r.eval y
  simp only [wpV] at hv
  split at hv
  · rename_i i j hp hq
    rw [hp] at hx
    rw [hq] at hy
    have mx' : ∀ c : Prop, [Decidable c] → ∀ (u v : Int), (if c then Value.int .i64 u else Value.int .i64 v) = Value.int .i64 (if c then u else v) := fun c _ u v => by split <;> rfl
    cases mx with
    | true =>
      refine ⟨_, hv, trivial, fun w hw => ?_⟩
      simp [execOp, hop, resolve, invoke, builtin, hx, hy, SV.c, SV.c1, Builtin.max_, Builtin.max2]
      omega
    | false =>
      refine ⟨_, hv, trivial, fun w hw => ?_⟩
      simp [execOp, hop, resolve, invoke, builtin, hx, hy, SV.c, SV.c1, Builtin.min_, Builtin.min2]
      omega
  · exact hv.elim

theorem tyInt_und {t : Nat} (h : tyInt P t = true) : P.underlying t = some (.int .i64) := by
  unfold tyInt at h
  split at h
  · assumption
  · cases h
theorem tyU64_und {t : Nat} (h : tyU64 P t = true) : P.underlying t = some (.int .u64) := by
  unfold tyU64 at h
  split at h
  · assumption
  · cases h
theorem wrap_u64 {z : Int} (h0 : 0 ≤ z) (h1 : z ≤ 9223372036854775807) : IntKind.u64.wrap z = z := by
  simp [IntKind.wrap, IntKind.bits, IntKind.signed]
  omega
theorem execV_conv (r : Rel n β L e a) {o : Oper} {s d : TypeId} {x : Operand} (hop : o.op = .convert s d x) {V : SV → Prop}
    (hv : wpV (lowKind P o.op) e L h V) : ∃ sv, V sv ∧ sv.ok L ∧ Yields P o a β L h sv := by
  have hx := r.eval x
  rw [hop] at hv
  simp only [lowKind] at hv
  split at hv
  · rename_i ht
    simp only [Bool.and_eq_true] at ht
    simp only [wpV] at hv
    split at hv
    · rename_i z hp
      obtain ⟨h0, h1, k⟩ := hv
      exact ⟨_, k, trivial, fun w hw => by simp [execOp, hop, hx, hp, SV.c, SV.c1, convert, run_underlying (tyInt_und ht.1), run_underlying (tyU64_und ht.2), Conv.intToInt, wrap_u64 h0 h1]⟩
    · exact hv.elim
  · split at hv
    · rename_i ht
      simp only [Bool.and_eq_true] at ht
      simp only [wpV] at hv
      split at hv
      · rename_i z hp
        obtain ⟨h0, h1, k⟩ := hv
        have hw' : IntKind.i64.wrap z = z := IntWalk.i64_in z ⟨by omega, h1⟩
        exact ⟨_, k, trivial, fun w hw => by simp [execOp, hop, hx, hp, SV.c, SV.c1, convert, run_underlying (tyInt_und ht.2), run_underlying (tyU64_und ht.1), Conv.intToInt, hw']⟩
      · exact hv.elim
    · exact hv.elim
theorem eqGuard_shr {P : Program} {t : TypeId} {x y : Operand} {u v : Value} {w : World} : (eqGuard .shr t x y u v).run P w = .ok () w := by simp [eqGuard]
theorem execV_shr (r : Rel n β L e a) {o : Oper} {t t' : TypeId} {x y : Operand} (hop : o.op = .binOp .shr t x y t') {V : SV → Prop}
    (hv : wpV (.bitop .shr 0 (lowArg x) (lowArg y)) e L h V) : ∃ sv, V sv ∧ sv.ok L ∧ Yields P o a β L h sv := by
  have hx := r.eval x
  have hy := r.eval y
  simp only [wpV] at hv
  split at hv
  · rename_i z hp hq
    rw [hp] at hx
    rw [hq] at hy
    refine ⟨_, hv, trivial, fun w hw => ?_⟩
    simp [execOp, hop, hx, hy, SV.c, SV.c1, eqGuard_shr, binOp, Op.shift, IntKind.bits]
  · exact hv.elim
theorem execV_div (r : Rel n β L e a) {o : Oper} {op : BinOp} {t t' : TypeId} {x y : Operand} (hop : o.op = .binOp op t x y t') {V : SV → Prop}
    (hv : wpV (.divm op (lowArg x) (lowArg y)) e L h V) : ∃ sv, V sv ∧ sv.ok L ∧ Yields P o a β L h sv := by
  have hx := r.eval x
  have hy := r.eval y
  simp only [wpV] at hv
  split at hv
  · rename_i i j hp hq
    rw [hp] at hx
    rw [hq] at hy
    split at hv
    · obtain ⟨hne, hv⟩ := hv
      exact ⟨_, hv.out, trivial, fun w hw => by simp [execOp, hop, hx, hy, SV.c, SV.c1, binOp_quo, eqGuard_quo, Op.intDiv, hne]⟩
    · obtain ⟨hne, hv⟩ := hv
      exact ⟨_, hv, trivial, fun w hw => by simp [execOp, hop, hx, hy, SV.c, SV.c1, binOp_rem, eqGuard_rem, Op.intDiv, hne]⟩
    · exact hv.elim
  · exact hv.elim

theorem execV_slice (r : Rel n β L e a) {o : Oper} {t el : TypeId} {x : Operand} {lo hi : Option Operand} (hop : o.op = .slice t x lo hi none) (hu : P.underlying t = some (.slice el)) (ht : tyOk P el = true) {V : SV → Prop}
    (hv : wpV (.slice (tySize P el) (lowArg x) (lo.map lowArg) (hi.map lowArg)) e L h V) : ∃ sv, V sv ∧ sv.ok L ∧ Yields P o a β L h sv := by
  have hx := r.eval x
  obtain ⟨j, hj⟩ := tyOk_info ht
  rw [tySize_of hj] at hv
  have key : ∀ (A : Option Addr) (m cap : Nat) (zl zk : Int), (lowArg x).get e = .v (.slice A m cap) → EvSlice A m cap j.size zl zk V → ((lo = none ∧ zl = 0) ∨ ∃ q, lo = some q ∧ (lowArg q).get e = .v (.int .i64 zl)) → ((hi = none ∧ zk = m) ∨ ∃ q, hi = some q ∧ (lowArg q).get e = .v (.int .i64 zk)) →
      ∃ sv, V sv ∧ sv.ok L ∧ Yields P o a β L h sv := by
    intro A m cap zl zk hpx hev hlo hhi
    obtain ⟨l, k, rfl, rfl, h0, h1, kk⟩ := hev
    refine ⟨_, kk (if cap = l then A else A.map (·.add (l * j.size))) (fun hlt => if_neg (by omega)) (fun heq => if_pos heq.symm), trivial, fun w hw => ?_⟩
    have hxx : a.eval x = .slice A m cap := by rw [hx, hpx]; rfl
    have b1 : ∀ (v : Value) (y : Nat) (c : BoundsCode) (q : Nat), v = .int .i64 (q : Int) → q ≤ y → (Instr.sliceBound v y c).run P w = .ok q w := by
      rintro v y c q rfl hq
      simp [Instr.sliceBound, asIntOf, hq]
    have hsb : (Instr.sliceBounds true m cap (lo.map a.eval) (hi.map a.eval) none).run P w = .ok (l, k, cap) w := by
      have hl' : ∀ q, lo = some q → (Instr.sliceBound (a.eval q) k .sliceB).run P w = .ok l w := fun q e1 => by
        rcases hlo with ⟨e2, _⟩ | ⟨q', e2, hq⟩
        · rw [e1] at e2; cases e2
        · rw [e1] at e2; injection e2 with e2; subst e2; exact b1 _ _ _ _ (by rw [r.eval q, hq]; rfl) h0
      have hk' : ∀ q, hi = some q → (Instr.sliceBound (a.eval q) cap .sliceAcap).run P w = .ok k w := fun q e1 => by
        rcases hhi with ⟨e2, _⟩ | ⟨q', e2, hq⟩
        · rw [e1] at e2; cases e2
        · rw [e1] at e2; injection e2 with e2; subst e2; exact b1 _ _ _ _ (by rw [r.eval q, hq]; rfl) h1
      have hl0 : lo = none → l = 0 := fun e1 => by
        rcases hlo with ⟨_, e2⟩ | ⟨q', e2, _⟩
        · omega
        · rw [e1] at e2; cases e2
      have hk0 : hi = none → k = m := fun e1 => by
        rcases hhi with ⟨_, e2⟩ | ⟨q', e2, _⟩
        · omega
        · rw [e1] at e2; cases e2
      cases hi with
      | none =>
        cases lo with
        | none => simp only [Instr.sliceBounds, Option.map_none, Sem.run_bind, Sem.run_pure, Result.andThen_ok, hk0 rfl, hl0 rfl]
        | some q => simp only [Instr.sliceBounds, Option.map_none, Option.map_some, Option.isSome_none, Bool.false_eq_true, if_false, Sem.run_bind, Sem.run_pure, Result.andThen_ok, ← hk0 rfl, hl' q rfl]
      | some p =>
        cases lo with
        | none => simp only [Instr.sliceBounds, Option.map_none, Option.map_some, if_true, Sem.run_bind, Sem.run_pure, Result.andThen_ok, hk' p rfl, hl0 rfl]
        | some q => simp only [Instr.sliceBounds, Option.map_some, Option.isSome_none, Bool.false_eq_true, if_false, if_true, Sem.run_bind, Sem.run_pure, Result.andThen_ok, hk' p rfl, hl' q rfl]
    simp only [execOp, hop, Instr.sliceAt, Instr.slice, Sem.run_bind, run_underlying hu, Result.andThen_ok, hxx, Option.map_none, hsb, run_sizeOf hj, Sem.run_pure]
    rfl
  simp only [wpV] at hv
  cases lo with
  | none =>
    cases hi with
    | none =>
      simp only [Option.map_none, optArg] at hv
      split at hv <;> first | (rename_i hpx _ _; exact key _ _ _ _ _ (by assumption) hv (.inl ⟨rfl, rfl⟩) (.inl ⟨rfl, rfl⟩)) | (simp_all; done)
    | some q =>
      simp only [Option.map_none, Option.map_some, optArg] at hv
      split at hv <;> first | exact key _ _ _ _ _ (by assumption) hv (.inl ⟨rfl, rfl⟩) (.inr ⟨q, rfl, by simp_all⟩) | (simp_all; done)
  | some p =>
    cases hi with
    | none =>
      simp only [Option.map_none, Option.map_some, optArg] at hv
      split at hv <;> first | exact key _ _ _ _ _ (by assumption) hv (.inr ⟨p, rfl, by simp_all⟩) (.inl ⟨rfl, rfl⟩) | (simp_all; done)
    | some q =>
      simp only [Option.map_some, optArg] at hv
      split at hv <;> first | exact key _ _ _ _ _ (by assumption) hv (.inr ⟨p, rfl, by simp_all⟩) (.inr ⟨q, rfl, by simp_all⟩) | (simp_all; done)

theorem run_part_one {t : TypeId} (ht : tyOk P t = true) (hg : tyAgg P t = false) {cs : Array Value} {off : Nat} {v : Value} (hc : cs[off]? = some v) : (part t cs off).run P w = .ok v w := by
  simp [part, run_isAgg (tyOk_und ht), hg, hc]
theorem run_part_agg {t : TypeId} (ht : tyOk P t = true) (hg : tyAgg P t = true) (cs : Array Value) (off : Nat) : (part t cs off).run P w = .ok (.agg (cs.extract off (off + tySize P t))) w := by
  obtain ⟨i, hi⟩ := tyOk_info ht
  simp [part, run_isAgg (tyOk_und ht), hg, run_sizeOf hi, tySize_of hi]

theorem aggOf_c {x : SV} {cs : List SV} (hx : aggOf x = some cs) : x.c β = .agg (cs.map (SV.c1 β)).toArray := by
  cases x with
  | a xs => injection hx with hx; subst hx; rfl
  | v y =>
    cases y with
    | agg as =>
      injection hx with hx; subst hx
      rw [c1_vs]; rfl
    | _ => cases hx
  | _ => cases hx
theorem aggOf_ok {x : SV} {cs : List SV} (hx : aggOf x = some cs) (hk : x.ok L) : ∀ y ∈ cs, y.ok1 L := by
  cases x with
  | a xs => injection hx with hx; subst hx; exact hk
  | v y =>
    cases y with
    | agg as => injection hx with hx; subst hx; exact ok_map_v _
    | _ => cases hx
  | _ => cases hx
theorem execV_field (r : Rel n β L e a) {o : Oper} {t : TypeId} {i : Nat} {x : Operand} {f : Field} (hop : o.op = .field t x i) (hf : fldOf P t i = some f) (ht : tyOk P f.type = true) {V : SV → Prop}
    (hv : wpV (.field (tyAgg P f.type) f.offset (tySize P f.type) (lowArg x)) e L h V) : ∃ sv, V sv ∧ sv.ok L ∧ Yields P o a β L h sv := by
  obtain ⟨fs, hu, hfi⟩ := fldOf_spec hf
  have hx := r.eval x
  simp only [wpV] at hv
  split at hv
  · rename_i cs hcs
    have hc := aggOf_c (β := β) hcs
    rw [hc] at hx
    split at hv
    · rename_i hg
      split at hv
      · rename_i rr hr
        obtain ⟨h1, h2⟩ := sub_eq _ _ _ _ hr
        refine ⟨_, hv, ?_, fun w hw => ?_⟩
        · show ∀ y ∈ rr, y.ok1 L
          intro y hy
          rw [h1] at hy
          exact aggOf_ok hcs (r.okArg x) y (List.mem_of_mem_drop (List.mem_of_mem_take hy))
        · simp only [execOp, hop, Instr.field, Sem.run_bind, run_underlying hu, Result.andThen_ok, hfi, hx, asAgg, Sem.run_pure, run_part_agg ht hg]
          have : ((cs.map (SV.c1 β)).toArray.extract f.offset (f.offset + tySize P f.type)) = (rr.map (SV.c1 β)).toArray := by
            rw [h1]
            simp [List.map_take, List.map_drop, List.take_drop]
          rw [this]; rfl
      · exact hv.elim
    · rename_i hg
      split at hv
      · exact hv.elim
      · rename_i y hne hy
        have hn : ∀ xs, y ≠ .a xs := fun xs e => hne xs e
        have hy' : (cs.map (SV.c1 β)).toArray[f.offset]? = some (y.c1 β) := by
          rw [nth_eq] at hy; simp [hy]
        refine ⟨_, hv, ok_of_ok1 (aggOf_ok hcs (r.okArg x) y (by rw [nth_eq] at hy; exact List.mem_of_getElem? hy)) hn, fun w hw => ?_⟩
        simp only [execOp, hop, Instr.field, Sem.run_bind, run_underlying hu, Result.andThen_ok, hfi, hx, asAgg, Sem.run_pure, run_part_one ht hg hy', SV.c_of hn]
      · exact hv.elim
  · exact hv.elim

/-! equality -/
theorem flip_eq (neg b : Bool) : flip neg b = (if neg then !b else b) := by cases neg <;> rfl
theorem run_eqv {o : Oper} {neg : Bool} {t t' : TypeId} {x y : Operand} {u v : Value} {b : Bool} (hop : o.op = .binOp (if neg then .neq else .eql) t x y t') (hx : a.eval x = u) (hy : a.eval y = v)
    (hg : (eqGuard (if neg then .neq else .eql) t x y u v).run P w = .ok () w) (hnum : ∀ w, (binOp (if neg then .neq else .eql) t u v).run P w = (do pure (.bool (flip neg (← Op.equal t u v))) : Sem Value).run P w) (he : (Op.equal t u v).run P w = .ok b w) :
    (execOp a.eval o).run P w = .ok (.value (.bool (flip neg b))) w := by
  simp only [execOp, hop, hx, hy, Sem.run_bind, hg, Result.andThen_ok, hnum, he, Sem.run_pure]

theorem intFields_spec : ∀ (fs : List Field) (k : Nat), intFields P fs k = true → ∀ f ∈ fs, tyInt P f.type = true ∧ tyOk P f.type = true ∧ tyAgg P f.type = false ∧ f.name ≠ "_"
  | [], _, _, f, hf => by cases hf
  | g :: fs, k, h, f, hf => by
    simp only [intFields, Bool.and_eq_true, Bool.not_eq_true', decide_eq_true_eq] at h
    obtain ⟨⟨⟨⟨⟨h1, h2⟩, h3⟩, h4⟩, h5⟩, h6⟩ := h
    rcases List.mem_cons.1 hf with rfl | hf
    · exact ⟨h1, h3, h4, h5⟩
    · exact intFields_spec fs (k + 1) h6 f hf
theorem run_eqFields : ∀ (fs : List Field) (k : Nat) (xs ys : List SV) (us vs : Array Value) (b : Bool) (d : Nat), intFields P fs k = true → us.toList.drop k = xs.map (SV.c1 β) → vs.toList.drop k = ys.map (SV.c1 β) → xs.length = fs.length → ys.length = fs.length → eqCells xs ys = some b →
    (Op.eqFields (d + 1) us vs fs).run P w = .ok b w
  | [], k, xs, ys, us, vs, b, d, _, _, _, hx, hy, he => by
    rw [List.eq_nil_of_length_eq_zero hx, List.eq_nil_of_length_eq_zero hy] at he
    simp only [eqCells] at he
    injection he with he; subst he
    simp [Op.eqFields]
  | f :: fs, k, xs, ys, us, vs, b, d, hf, hu, hv, hx, hy, he => by
    simp only [intFields, Bool.and_eq_true, Bool.not_eq_true', decide_eq_true_eq] at hf
    obtain ⟨⟨⟨⟨⟨f1, f2⟩, f3⟩, f4⟩, f5⟩, f6⟩ := hf
    have f2 := Nat.eq_of_beq_eq_true f2
    match xs, ys, hx, hy with
    | x :: xs, y :: ys, hx, hy =>
      unfold eqCells at he
      split at he
      · rename_i e1 e2; cases e1
      · rename_i p l q r e1 e2
        injection e1 with e1 e1'
        injection e2 with e2 e2'
        subst e1; subst e2; subst e1'; subst e2'
        split at he
        · rename_i tt ht
          injection he with he; subst he
          have hup : us[f.offset]? = some (.int .i64 p) := by
            have := congrArg (fun z => z[0]?) hu
            simp only [List.getElem?_drop, Nat.add_zero, List.map_cons, List.getElem?_cons_zero] at this
            rw [f2, ← Array.getElem?_toList]; exact this
          have hvp : vs[f.offset]? = some (.int .i64 q) := by
            have := congrArg (fun z => z[0]?) hv
            simp only [List.getElem?_drop, Nat.add_zero, List.map_cons, List.getElem?_cons_zero] at this
            rw [f2, ← Array.getElem?_toList]; exact this
          have hu' : us.toList.drop (k + 1) = xs.map (SV.c1 β) := by
            have := congrArg List.tail hu
            simpa [List.tail_drop] using this
          have hv' : vs.toList.drop (k + 1) = ys.map (SV.c1 β) := by
            have := congrArg List.tail hv
            simpa [List.tail_drop] using this
          simp only [Op.eqFields, f5, ne_eq, not_false_eq_true, if_true, Sem.run_bind, run_part_one f3 f4 hup, run_part_one f3 f4 hvp, Result.andThen_ok, run_equalIn_int w d f.type .i64 .i64 p q (tyInt_und f1)]
          by_cases hpq : p = q
          · subst hpq
            simp only [beq_self_eq_true, Bool.not_true, Bool.false_eq_true, if_false, decide_true, Bool.true_and]
            exact run_eqFields fs (k + 1) xs ys us vs tt d f6 hu' hv' (by simpa using hx) (by simpa using hy) ht
          · have : (p == q) = false := by simpa using hpq
            simp [this, hpq]
        · cases he
      · cases he

theorem run_eqItems {el : TypeId} (h1 : tyInt P el = true) (h2 : tyOk P el = true) (h3 : tyAgg P el = false) (h4 : P.cellsOf el = 1) : ∀ (m k : Nat) (xs ys : List SV) (us vs : Array Value) (b : Bool) (d : Nat), us.toList.drop k = xs.map (SV.c1 β) → vs.toList.drop k = ys.map (SV.c1 β) → xs.length = m → ys.length = m → eqCells xs ys = some b →
    (Go.Op.eqItems (d + 1) el (P.cellsOf el) us vs (List.range' k m)).run P w = .ok b w
  | 0, k, xs, ys, us, vs, b, d, _, _, hx, hy, he => by
    rw [List.eq_nil_of_length_eq_zero hx, List.eq_nil_of_length_eq_zero hy] at he
    simp only [eqCells] at he
    injection he with he; subst he
    simp [Go.Op.eqItems]
  | m + 1, k, xs, ys, us, vs, b, d, hu, hv, hx, hy, he => by
    match xs, ys, hx, hy with
    | x :: xs, y :: ys, hx, hy =>
      unfold eqCells at he
      split at he
      · rename_i e1 e2; cases e1
      · rename_i p xt q yt e1 e2
        injection e1 with e1 e1'; injection e2 with e2 e2'
        subst e1; subst e1'; subst e2; subst e2'
        split at he
        · rename_i tt ht
          injection he with he; subst he
          have hup : us[k * P.cellsOf el]? = some (.int .i64 p) := by
            have := congrArg (fun z => z[0]?) hu
            simp only [List.getElem?_drop, Nat.add_zero, List.map_cons, List.getElem?_cons_zero] at this
            rw [h4, Nat.mul_one, ← Array.getElem?_toList]; exact this
          have hvp : vs[k * P.cellsOf el]? = some (.int .i64 q) := by
            have := congrArg (fun z => z[0]?) hv
            simp only [List.getElem?_drop, Nat.add_zero, List.map_cons, List.getElem?_cons_zero] at this
            rw [h4, Nat.mul_one, ← Array.getElem?_toList]; exact this
          have hu' : us.toList.drop (k + 1) = xs.map (SV.c1 β) := by
            have := congrArg List.tail hu
            simpa [List.tail_drop] using this
          have hv' : vs.toList.drop (k + 1) = ys.map (SV.c1 β) := by
            have := congrArg List.tail hv
            simpa [List.tail_drop] using this
          rw [List.range'_succ]
          simp only [Go.Op.eqItems, Sem.run_bind, run_part_one h2 h3 hup, run_part_one h2 h3 hvp, Result.andThen_ok, run_equalIn_int w d el .i64 .i64 p q (tyInt_und h1)]
          by_cases hpq : p = q
          · subst hpq
            simp only [beq_self_eq_true, Bool.not_true, Bool.false_eq_true, if_false, decide_true, Bool.true_and]
            exact run_eqItems h1 h2 h3 h4 m (k + 1) xs ys us vs tt d hu' hv' (by simpa using hx) (by simpa using hy) ht
          · have : (p == q) = false := by simpa using hpq
            simp [this, hpq]
        · cases he
      · cases he
theorem intElem_spec {el : TypeId} (h : intElem P el = true) : tyInt P el = true ∧ tyOk P el = true ∧ tyAgg P el = false ∧ ∃ i, P.info? el = some i ∧ i.size = 1 ∧ P.cellsOf el = 1 := by
  simp only [intElem, Bool.and_eq_true, Bool.not_eq_true'] at h
  obtain ⟨⟨⟨a, b⟩, c⟩, d⟩ := h
  obtain ⟨i, hi⟩ := tyOk_info b
  have d := Nat.eq_of_beq_eq_true d
  rw [tySize_of hi] at d
  exact ⟨a, b, c, i, hi, d, by simp [Program.cellsOf, hi, d]⟩

theorem eq_ptr {t el : TypeId} (hu : P.underlying t = some (.pointer el)) (A : Option Addr) (d : Nat) : (Op.equalIn (d + 1) t (.pointer A) (.pointer none)).run P w = .ok A.isNone w := by
  cases A <;> simp [Op.equalIn, run_underlying hu]
theorem eq_slc {t el : TypeId} (hu : P.underlying t = some (.slice el)) (A : Option Addr) (n1 c1 n2 c2 : Nat) (d : Nat) : (Op.equalIn (d + 1) t (.slice A n1 c1) (.slice none n2 c2)).run P w = .ok A.isNone w := by
  cases A <;> simp [Op.equalIn, run_underlying hu]
theorem eq_fn0 {t : TypeId} {p q : Array TypeId} {b : Bool} (hu : P.underlying t = some (.func p q b)) (d : Nat) : (Op.equalIn (d + 1) t .nilFunc .nilFunc).run P w = .ok true w := by
  simp [Op.equalIn, run_underlying hu]
theorem eq_fn1 {t : TypeId} {p q : Array TypeId} {b : Bool} (hu : P.underlying t = some (.func p q b)) (f : _root_.Go.Fn) (u v : Array Value) (d : Nat) : (Op.equalIn (d + 1) t (.func f u v) .nilFunc).run P w = .ok false w := by
  simp [Op.equalIn, run_underlying hu]

theorem execV_eqv {o : Oper} {neg : Bool} {t t' : TypeId} {x y : Operand} {V : SV → Prop}
    (r : Rel n β L e a) (hop : o.op = .binOp (if neg then .neq else .eql) t x y t') (hp : wpV (lowEq P neg t (lowArg x) (lowArg y)) e L h V) : ∃ sv, V sv ∧ sv.ok L ∧ Yields P o a β L h sv := by
  have hx := r.eval x
  have hy := r.eval y
  have fin : ∀ (u v : Value) (b : Bool), a.eval x = u → a.eval y = v → (∀ w, (eqGuard (if neg then .neq else .eql) t x y u v).run P w = .ok () w) → (∀ w, (binOp (if neg then .neq else .eql) t u v).run P w = (do pure (.bool (flip neg (← Op.equal t u v))) : Sem Value).run P w) →
      (∀ w, (Op.equal t u v).run P w = .ok b w) → V (.v (.bool (flip neg b))) → ∃ sv, V sv ∧ sv.ok L ∧ Yields P o a β L h sv := fun u v b h1 h2 h3 h4 h5 h6 =>
    ⟨_, h6, trivial, fun w _ => run_eqv hop h1 h2 (h3 w) h4 (h5 w)⟩
  unfold lowEq at hp
  split at hp
  · rename_i k hk
    unfold eqKind at hk
    split at hk
    · rename_i hu
      injection hk with hk; subst hk
      simp only [wpV] at hp
      split at hp
      · rename_i p q e1 e2
        rw [e1] at hx; rw [e2] at hy
        refine fin _ _ (p == q) hx hy (fun w => ?_) (fun w => ?_) (fun w => ?_) hp
        · cases neg <;> rfl
        · cases neg <;> rfl
        · exact run_equalIn_bool' w 9999 t p q hu
      · exact hp.elim
    · rename_i el hu
      injection hk with hk; subst hk
      simp only [wpV] at hp
      split at hp
      · rename_i A e1 e2
        rw [e1] at hx; rw [e2] at hy
        refine fin _ _ A.isNone hx hy (fun w => ?_) (fun w => ?_) (fun w => ?_) hp
        · cases neg <;> rfl
        · cases neg <;> rfl
        · exact eq_ptr hu A 9999
      · rename_i i off e1 e2
        rw [e1] at hx; rw [e2] at hy
        refine fin _ _ false hx hy (fun w => ?_) (fun w => ?_) (fun w => ?_) (by cases neg <;> exact hp)
        · cases neg <;> rfl
        · cases neg <;> rfl
        · exact eq_ptr hu (some ⟨β i, off, none⟩) 9999
      · exact hp.elim
    · rename_i el hu
      injection hk with hk; subst hk
      simp only [wpV] at hp
      split at hp
      · rename_i A n1 c1 n2 c2 e1 e2
        rw [e1] at hx; rw [e2] at hy
        refine fin _ _ A.isNone hx hy (fun w => ?_) (fun w => ?_) (fun w => ?_) hp
        · cases neg <;> rfl
        · cases neg <;> rfl
        · exact eq_slc hu A n1 c1 n2 c2 9999
      · rename_i i off l c n2 c2 e1 e2
        rw [e1] at hx; rw [e2] at hy
        refine fin _ _ false hx hy (fun w => ?_) (fun w => ?_) (fun w => ?_) (by cases neg <;> exact hp)
        · cases neg <;> rfl
        · cases neg <;> rfl
        · exact eq_slc hu (some ⟨β i, off, none⟩) l c n2 c2 9999
      · exact hp.elim
    · rename_i p1 p2 p3 hu
      injection hk with hk; subst hk
      simp only [wpV] at hp
      split at hp
      · rename_i e1 e2
        rw [e1] at hx; rw [e2] at hy
        refine fin _ _ true hx hy (fun w => ?_) (fun w => ?_) (fun w => ?_) hp
        · cases neg <;> rfl
        · cases neg <;> rfl
        · exact eq_fn0 hu 9999
      · rename_i f1 f2 f3 e1 e2
        rw [e1] at hx; rw [e2] at hy
        refine fin _ _ false hx hy (fun w => ?_) (fun w => ?_) (fun w => ?_) (by cases neg <;> exact hp)
        · cases neg <;> rfl
        · cases neg <;> rfl
        · exact eq_fn1 hu f1 f2 f3 9999
      · exact hp.elim
    · rename_i fs hu
      split at hk
      · rename_i hc
        injection hk with hk; subst hk
        simp only [Bool.and_eq_true, Bool.not_eq_true'] at hc
        obtain ⟨⟨c1, c2⟩, c3⟩ := hc
        rw [Nat.add_comm] at hp
        simp only [wpV] at hp
        split at hp
        · rename_i xs ys e1 e2
          cases hb : (Nat.beq xs.length fs.size && Nat.beq ys.length fs.size) with
          | false => rw [hb] at hp; exact hp.elim
          | true =>
            rw [hb] at hp
            simp only [cond_true] at hp
            simp only [Bool.and_eq_true] at hb
            split at hp
            · rename_i b he
              have ex := aggOf_c (β := β) e1
              have ey := aggOf_c (β := β) e2
              rw [ex] at hx; rw [ey] at hy
              have hfs : P.fieldsOf t = fs := by simp [Program.fieldsOf, hu]
              refine fin _ _ b hx hy (fun w => ?_) (fun w => ?_) (fun w => ?_) hp
              · exact run_eqGuard_agg w _ t x y _ _ c3
              · cases neg <;> rfl
              · show (Op.equalIn (9999 + 1) t _ _).run P w = _
                rw [run_equalIn_struct w 9999 t _ _ (by rw [hfs]; exact hu) c2, hfs]
                exact run_eqFields (β := β) fs.toList 0 xs ys _ _ b 9998 c1 (by simp) (by simp) (by rw [Nat.eq_of_beq_eq_true hb.1]; simp) (by rw [Nat.eq_of_beq_eq_true hb.2]; simp) he
            · exact hp.elim
        · exact hp.elim
      · cases hk
    · rename_i m el hu
      split at hk
      · rename_i hc
        injection hk with hk; subst hk
        simp only [Bool.and_eq_true, Bool.not_eq_true'] at hc
        obtain ⟨c1, c3⟩ := hc
        obtain ⟨d1, d2, d3, i, hi, d4, d5⟩ := intElem_spec c1
        rw [Nat.add_comm] at hp
        simp only [wpV] at hp
        split at hp
        · rename_i xs ys e1 e2
          cases hb : (Nat.beq xs.length m && Nat.beq ys.length m) with
          | false => rw [hb] at hp; exact hp.elim
          | true =>
            rw [hb] at hp
            simp only [cond_true] at hp
            simp only [Bool.and_eq_true] at hb
            split at hp
            · rename_i b he
              have ex := aggOf_c (β := β) e1
              have ey := aggOf_c (β := β) e2
              rw [ex] at hx; rw [ey] at hy
              refine fin _ _ b hx hy (fun w => ?_) (fun w => ?_) (fun w => ?_) hp
              · exact run_eqGuard_agg w _ t x y _ _ c3
              · cases neg <;> rfl
              · show (Op.equalIn (9999 + 1) t _ _).run P w = _
                rw [run_equalIn_array w 9999 _ _ hu hi, List.range_eq_range']
                exact run_eqItems (β := β) d1 d2 d3 d5 m 0 xs ys _ _ b 9998 (by simp) (by simp) (Nat.eq_of_beq_eq_true hb.1) (Nat.eq_of_beq_eq_true hb.2) he
            · exact hp.elim
        · exact hp.elim
      · cases hk
    · cases hk
  · exact hp.elim

end
end Go.Sx
