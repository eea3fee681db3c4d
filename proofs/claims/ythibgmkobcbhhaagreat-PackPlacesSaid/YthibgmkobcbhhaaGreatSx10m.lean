/- Maps whose keys are numbers, or structs of numbers: what the rules say is what the model does. Conditions: none. -/
import Derived.Test.YthibgmkobcbhhaaGreatSx10
namespace Go.Sx
open Go.RowKit
section
variable {P : Program} {h0 : Hp} {w0 : World} {n : Nat} {β : Nat → Nat} {L : List LE} {h : Hp} {e : Env} {a : Act} {w : World}

/-- A block of the partial heap is written anew, whatever it is. -/
theorem Mem.writeO (m : Mem h0 w0 β L h w) {b : Nat} {o : Obj} (hb : h b = some o) (o' : Obj) :
    Mem h0 w0 β L (h.put b o') { w with heap := w.heap.setIfInBounds b o' } := by
  have hlt : b < w.heap.size := m.see.hw.lt (by rw [hb]; simp)
  have hne : ∀ i l, nth L i = some l → l.live = true → β i ≠ b := fun i l hl hv e => by
    have := m.hole i l hl hv
    rw [e, hb] at this; cases this
  have hw1 : ∀ j, j ≠ b → (w.heap.setIfInBounds b o')[j]? = w.heap[j]? := fun j hj => by rw [Array.getElem?_setIfInBounds, if_neg (Ne.symm hj)]
  refine ⟨⟨fun j o hj => ?_, fun i l hl => ?_⟩, fun i l hl hv => ?_, m.inj, fun i l hl hv => by simpa using m.lt i l hl hv, m.lo, m.os, m.tape, m.output, by simpa using m.size, fun j hj hn => ?_, fun j hj => ?_⟩
  · show (w.heap.setIfInBounds b o')[j]? = some o
    by_cases e : j = b
    · subst e; rw [Hp.put_same] at hj; injection hj with hj; subst hj; rw [Array.getElem?_setIfInBounds, if_pos rfl, if_pos hlt]
    · rw [Hp.put_ne _ _ e] at hj; rw [hw1 j e]; exact m.see.hw j o hj
  · have hs := m.see.see i l hl
    cases l with
    | own cs2 ty' => simp only [LE.sees] at hs ⊢; rw [hw1 _ (hne i _ hl rfl)]; exact hs
    | pub b' => exact hs
    | row ety size A n cap xs =>
      simp only [LE.sees] at hs ⊢
      obtain ⟨⟨h1, h2⟩, h3⟩ := hs
      refine ⟨⟨h1, ?_⟩, h3⟩
      rcases h2 with h2 | ⟨g, c, cur, e1, e2, e3, e4⟩
      · exact .inl h2
      · injection e1 with e1 e1' e1''
        have hg := h3 _ e1
        subst e1
        exact .inr ⟨g, c, cur, by rw [e1''], e2, by rw [hw1 _ (by have := hne i _ hl rfl; simp at hg; rw [hg]; exact this)]; exact e3, e4⟩
    | map f k => simp only [LE.sees] at hs ⊢; rw [hw1 _ (hne i _ hl rfl)]; exact hs
    | gone => trivial
  · rw [Hp.put_ne _ _ (hne i l hl hv)]; exact m.hole i l hl hv
  · show (w.heap.setIfInBounds b o')[j]? = _
    by_cases e : j = b
    · subst e
      rcases m.fresh j (by rw [hb]; simp) with e | e
      · exact absurd hn e
      · omega
    · rw [hw1 j e]; exact m.frame j hj hn
  · by_cases e : j = b
    · subst e; exact m.fresh j (by rw [hb]; simp)
    · rw [Hp.put_ne _ _ e] at hj; exact m.fresh j hj

/-- A new block of the partial heap. -/
theorem Mem.pushO (m : Mem h0 w0 β L h w) (o : Obj) : Mem h0 w0 β L (h.put w.heap.size o) { w with heap := w.heap.push o } := by
  have hw1 : ∀ j, j < w.heap.size → (w.heap.push o)[j]? = w.heap[j]? := fun j hj => by rw [Array.getElem?_push, if_neg (by omega)]
  have hne : ∀ i l, nth L i = some l → l.live = true → β i ≠ w.heap.size := fun i l hl hv e => by
    have := m.lt i l hl hv
    omega
  refine ⟨⟨fun j o' hj => ?_, fun i l hl => ?_⟩, fun i l hl hv => ?_, m.inj, fun i l hl hv => ?_, m.lo, m.os, m.tape, m.output, ?_, fun j hj hn => ?_, fun j hj => ?_⟩
  · show (w.heap.push o)[j]? = some o'
    by_cases e : j = w.heap.size
    · subst e; rw [Hp.put_same] at hj; injection hj with hj; subst hj; rw [Array.getElem?_push, if_pos rfl]
    · rw [Hp.put_ne _ _ e] at hj; rw [hw1 j (m.see.hw.lt (by rw [hj]; simp))]; exact m.see.hw j o' hj
  · have hs := m.see.see i l hl
    cases l with
    | own cs2 ty' => simp only [LE.sees] at hs ⊢; rw [hw1 _ (m.lt i _ hl rfl)]; exact hs
    | pub b' => exact hs
    | row ety size A n cap xs =>
      simp only [LE.sees] at hs ⊢
      obtain ⟨⟨h1, h2⟩, h3⟩ := hs
      refine ⟨⟨h1, ?_⟩, h3⟩
      rcases h2 with h2 | ⟨g, c, cur, e1, e2, e3, e4⟩
      · exact .inl h2
      · exact .inr ⟨g, c, cur, e1, e2, by rw [hw1 _ (Array.getElem?_eq_some_iff.1 e3).1]; exact e3, e4⟩
    | map f k => simp only [LE.sees] at hs ⊢; rw [hw1 _ (m.lt i _ hl rfl)]; exact hs
    | gone => trivial
  · rw [Hp.put_ne _ _ (hne i l hl hv)]; exact m.hole i l hl hv
  · show _ < (w.heap.push o).size
    rw [Array.size_push]; have := m.lt i l hl hv; omega
  · show _ ≤ (w.heap.push o).size
    rw [Array.size_push]; have := m.size; omega
  · show (w.heap.push o)[j]? = _
    have := m.size
    rw [hw1 j (by omega)]; exact m.frame j hj hn
  · by_cases e : j = w.heap.size
    · subst e; exact .inr m.size
    · rw [Hp.put_ne _ _ e] at hj; exact m.fresh j hj

/-! keys -/
/-- where an entry stands -/
def findE : List Ent → List Int → Nat → Option (Nat × Value)
  | [], _, _ => none
  | x :: l, k, i => if k = x.k then some (i, x.v) else findE l k (i + 1)
theorem findE_assoc (k : List Int) : ∀ (l : List Ent) (i : Nat), (findE l k i).map (·.2) = assoc l k
  | [], i => rfl
  | x :: l, i => by
    simp only [findE, assoc]
    split
    · rfl
    · exact findE_assoc k l (i + 1)
theorem findE_none {k : List Int} {v : Value} {c : Nat} : ∀ (l : List Ent) (i : Nat), findE l k i = none → upsert l k v c = l ++ [⟨k, v, c⟩]
  | [], i, _ => rfl
  | x :: l, i, hx => by
    simp only [findE] at hx
    split at hx
    · cases hx
    · rename_i hk
      simp only [upsert, if_neg hk, List.cons_append, findE_none l (i + 1) hx]
theorem findE_some {k : List Int} {v u : Value} {c : Nat} {j : Nat} : ∀ (l : List Ent) (i : Nat), findE l k i = some (j, u) → ∃ q, j = i + q ∧ ∃ x, l[q]? = some x ∧ x.k = k ∧ upsert l k v c = l.set q ⟨x.k, v, x.born⟩
  | [], i, hx => by cases hx
  | x :: l, i, hx => by
    simp only [findE] at hx
    split at hx
    · rename_i hk
      injection hx with hx
      injection hx with h1 h2
      exact ⟨0, by omega, x, rfl, hk.symm, by simp [upsert, if_pos hk]⟩
    · rename_i hk
      obtain ⟨q, h1, y, h2, h3, h4⟩ := findE_some (v := v) (c := c) l (i + 1) hx
      exact ⟨q + 1, by omega, y, by simpa using h2, h3, by simp only [upsert, if_neg hk, List.set_cons_succ, h4]⟩

theorem keyKind_spec {t kk : Nat} (hk : keyKind P t = some kk) : (kk = 0 ∧ P.underlying t = some (.int .i64)) ∨
    (∃ fs, kk = 5 + fs.size ∧ P.underlying t = some (.struct fs) ∧ intFields P fs.toList 0 = true ∧ P.stoodInHeld t = false) ∨ ∃ m el, kk = 5 + m ∧ P.underlying t = some (.array m el) ∧ intElem P el = true := by
  unfold keyKind at hk
  cases ht : tyInt P t with
  | true =>
    rw [ht] at hk
    injection hk with hk
    exact .inl ⟨hk.symm, tyInt_und ht⟩
  | false =>
    rw [ht] at hk
    simp only [cond_false] at hk
    split at hk
    · rename_i fs hu
      split at hk
      · rename_i hc
        injection hk with hk
        simp only [Bool.and_eq_true, Bool.not_eq_true'] at hc
        exact .inr (.inl ⟨fs, hk.symm, hu, hc.1.1, hc.1.2⟩)
      · cases hk
    · rename_i m el hu
      split at hk
      · rename_i hc
        injection hk with hk
        simp only [Bool.and_eq_true, Bool.not_eq_true'] at hc
        exact .inr (.inr ⟨m, el, hk.symm, hu, hc.1⟩)
      · cases hk
    · cases hk
theorem ints_spec : ∀ (xs : List SV) (ks : List Int), ints xs = some ks → xs = ks.map fun a => SV.v (.int .i64 a)
  | [], ks, hx => by injection hx with hx; subst hx; rfl
  | x :: xs, ks, hx => by
    unfold ints at hx
    split at hx
    · rename_i e1; cases e1
    · rename_i a l e1
      injection e1 with e1 e2
      subst e1; subst e2
      split at hx
      · rename_i r hr
        injection hx with hx; subst hx
        rw [List.map_cons, ← ints_spec _ r hr]
      · cases hx
    · cases hx
theorem keyNums_spec {kk : Nat} {x : SV} {ks : List Int} (hx : keyNums kk x = some ks) (hkk : kk = 0 ∨ 5 ≤ kk) : x.c β = keyVal kk ks ∧ ks.length = keyLen kk := by
  rcases hkk with rfl | hkk
  · simp only [keyNums] at hx
    split at hx
    · injection hx with hx; subst hx; exact ⟨rfl, rfl⟩
    · cases hx
  · match kk, hkk with
    | kk + 1, hkk =>
      have hx : (match aggOf x with | some xs => (match ints xs with | some ks => bif Nat.beq (ks.length + 5) (kk + 1) then some ks else none | none => none) | none => none) = some ks := hx
      split at hx
      · rename_i xs hxs
        split at hx
        · rename_i ks' hks
          cases hb : Nat.beq (ks'.length + 5) (kk + 1) with
          | false => rw [hb] at hx; cases hx
          | true =>
            rw [hb] at hx
            injection hx with hx; subst hx
            have hb := Nat.eq_of_beq_eq_true hb
            refine ⟨?_, by simp only [keyLen]; omega⟩
            rw [aggOf_c hxs, ints_spec _ _ hks]
            simp only [keyVal, List.map_map]
            rfl
        · cases hx
      · cases hx

theorem eqCells_ints : ∀ (xs ys : List Int), xs.length = ys.length → eqCells (xs.map fun a => SV.v (.int .i64 a)) (ys.map fun a => SV.v (.int .i64 a)) = some (decide (xs = ys))
  | [], [], _ => rfl
  | x :: xs, y :: ys, hl => by
    simp only [List.map_cons, eqCells, eqCells_ints xs ys (by simpa using hl), List.cons.injEq]
    congr 1
    by_cases h1 : x = y <;> by_cases h2 : xs = ys <;> simp [h1, h2]
  | [], y :: ys, hl => by simp at hl
  | x :: xs, [], hl => by simp at hl

theorem run_checkKey_fields (em : Bool) (d : Nat) (us : Array Value) : ∀ (fs : List Field) (k : Nat) (ks : List Int), intFields P fs k = true → us.toList.drop k = ks.map (Value.int .i64) → ks.length = fs.length →
    (forIn fs PUnit.unit fun f (_ : PUnit) => (if f.name ≠ "_" then (do Instr.checkKey em (d + 1) f.type (← part f.type us f.offset); pure (ForInStep.yield PUnit.unit)) else (do pure PUnit.unit; pure (ForInStep.yield PUnit.unit)) : Sem (ForInStep PUnit))).run P w = .ok () w
  | [], k, ks, _, _, _ => by simp
  | f :: fs, k, ks, hf, hu, hl => by
    simp only [intFields, Bool.and_eq_true, Bool.not_eq_true', decide_eq_true_eq] at hf
    obtain ⟨⟨⟨⟨⟨f1, f2⟩, f3⟩, f4⟩, f5⟩, f6⟩ := hf
    have f2 := Nat.eq_of_beq_eq_true f2
    match ks, hl with
    | q :: ks, hl =>
      have hup : us[f.offset]? = some (.int .i64 q) := by
        have := congrArg (fun z => z[0]?) hu
        simp only [List.getElem?_drop, Nat.add_zero, List.map_cons, List.getElem?_cons_zero] at this
        rw [f2, ← Array.getElem?_toList]; exact this
      have hu' : us.toList.drop (k + 1) = ks.map (Value.int .i64) := by
        have := congrArg List.tail hu
        simpa [List.tail_drop] using this
      have h1 : (Instr.checkKey em (d + 1) f.type (.int .i64 q)).run P w = .ok () w := by
        simp [Instr.checkKey, run_underlying (tyInt_und f1)]
      simp only [List.forIn_cons, if_pos f5, Sem.run_bind, run_part_one f3 f4 hup, Result.andThen_ok, h1, Sem.run_pure]
      exact run_checkKey_fields em d us fs (k + 1) ks f6 hu' (by simpa using hl)

theorem run_checkKey_array {t el m : Nat} (hu : P.underlying t = some (.array m el)) (hel : intElem P el = true) (em : Bool) (d : Nat) (us : Array Value) (hm : us.size = m) (hi : ∀ v ∈ us.toList, ∃ q, v = .int .i64 q) : (Instr.checkKey em (d + 2) t (.agg us)).run P w = .ok () w := by
  obtain ⟨d1, d2, d3, i, hinf, d4, d5⟩ := intElem_spec hel
  unfold Instr.checkKey
  simp only [Sem.run_bind, run_underlying hu, Result.andThen_ok]
  simp only [Std.Legacy.Range.forIn_eq_forIn_range', Std.Legacy.Range.size, Nat.sub_zero, Nat.add_one_sub_one, Nat.div_one]
  have key : ∀ (c k : Nat), k + c ≤ m → (forIn (List.range' k c) PUnit.unit fun i (_ : PUnit) => ((do Instr.checkKey em (d + 1) el (← part el us (i * (← sizeOf el))); pure (ForInStep.yield PUnit.unit)) : Sem (ForInStep PUnit))).run P w = .ok () w := by
    intro c
    induction c with
    | zero => intro k _; simp
    | succ c ih =>
      intro k hk
      have hlt : k < us.size := by omega
      obtain ⟨q, hq⟩ := hi us[k] (by simp)
      have hup : us[k * 1]? = some (.int .i64 q) := by rw [Nat.mul_one, Array.getElem?_eq_getElem hlt, hq]
      have h1 : (Instr.checkKey em (d + 1) el (.int .i64 q)).run P w = .ok () w := by
        simp [Instr.checkKey, run_underlying (tyInt_und d1)]
      rw [List.range'_succ]
      simp only [List.forIn_cons, Sem.run_bind, run_sizeOf hinf, d4, run_part_one d2 d3 hup, Result.andThen_ok, h1, Sem.run_pure]
      exact ih (k + 1) (by omega)
  refine (congrArg (fun z => z.andThen fun _ w' => Sem.run P (pure ()) w') (key m 0 (by omega))).trans ?_
  rfl

theorem run_checkKey_kind {t kk : Nat} (hk : keyKind P t = some kk) {ks : List Int} (hl : ks.length = keyLen kk) (em : Bool) : (Instr.checkKey em 10000 t (keyVal kk ks)).run P w = .ok () w := by
  rcases keyKind_spec hk with ⟨rfl, hu⟩ | ⟨fs, rfl, hu, hf, hp⟩ | ⟨m, el, rfl, hu, hel⟩
  · match ks, hl with
    | [a], _ =>
      have : ∀ d, (Instr.checkKey em (d + 1) t (.int .i64 a)).run P w = .ok () w := fun d => by simp [Instr.checkKey, run_underlying hu]
      exact this 9999
  · have hl' : ks.length = fs.toList.length := by
      rw [hl]; rw [Nat.add_comm]; simp [keyLen]
    have hkv : keyVal (5 + fs.size) ks = .agg (ks.map (Value.int .i64)).toArray := by rw [Nat.add_comm]; rfl
    rw [hkv]
    show (Instr.checkKey em (9999 + 1) t _).run P w = _
    have := run_checkKey_fields (P := P) (w := w) em 9998 (ks.map (Value.int .i64)).toArray fs.toList 0 ks hf (by simp) hl'
    unfold Instr.checkKey
    simp only [Sem.run_bind, run_underlying hu, Result.andThen_ok]
    rw [← Array.forIn_toList]
    refine (congrArg (fun z => z.andThen fun _ w' => Sem.run P (pure ()) w') this).trans ?_
    rfl
  · have hl' : ks.length = m := by
      rw [hl]; rw [Nat.add_comm]; simp [keyLen]
    have hkv : keyVal (5 + m) ks = .agg (ks.map (Value.int .i64)).toArray := by rw [Nat.add_comm]; rfl
    rw [hkv]
    show (Instr.checkKey em (9999 + 1) t _).run P w = _
    exact run_checkKey_array hu hel em 9998 _ (by simp [hl']) fun v hv => by
      simp at hv
      obtain ⟨q, _, rfl⟩ := hv
      exact ⟨q, rfl⟩

theorem findNow_int {a : Int} : ∀ (l : List Ent) (i : Nat), (∀ x ∈ l, x.k.length = 1) → Instr.findNow (.int .i64) (.int .i64 a) (l.map (entOf 0)) i = some (findE l [a] i)
  | [], i, _ => rfl
  | x :: l, i, hx => by
    have h1 := hx x (by simp)
    match hk : x.k, h1 with
    | [b], _ =>
      have hb : (entOf 0 x).key = .int .i64 b := by simp [entOf, keyVal, hk]
      have hv : (entOf 0 x).val = x.v := rfl
      simp only [List.map_cons, Instr.findNow, hb, Instr.sameNow, if_true, findE, hk, hv]
      by_cases hab : a = b
      · subst hab; simp
      · have : (a == b) = false := by simpa using hab
        rw [this]
        simp only [List.cons.injEq, and_true, if_neg hab]
        exact findNow_int l (i + 1) fun y hy => hx y (by simp [hy])
theorem run_findAsking {t : Nat} {fs : Array Field} (hu : P.underlying t = some (.struct fs)) (hf : intFields P fs.toList 0 = true) (hp : P.stoodInHeld t = false) {ks : List Int} (hl : ks.length = fs.size) : ∀ (l : List Ent) (i : Nat), (∀ x ∈ l, x.k.length = fs.size) →
    (Instr.findAsking t (keyVal (5 + fs.size) ks) (l.map (entOf (5 + fs.size))) i).run P w = .ok (findE l ks i) w
  | [], i, _ => by simp [Instr.findAsking, findE]
  | x :: l, i, hx => by
    have hkv : ∀ k, keyVal (5 + fs.size) k = .agg (k.map (Value.int .i64)).toArray := fun k => by rw [Nat.add_comm]; rfl
    have hfs : P.fieldsOf t = fs := by simp [Program.fieldsOf, hu]
    have h1 := hx x (by simp)
    have heq : (Op.equal t (keyVal (5 + fs.size) ks) (keyVal (5 + fs.size) x.k)).run P w = .ok (decide (ks = x.k)) w := by
      rw [hkv, hkv]
      show (Op.equalIn (9999 + 1) t _ _).run P w = _
      rw [run_equalIn_struct w 9999 t _ _ (by rw [hfs]; exact hu) hp, hfs]
      refine run_eqFields (β := fun _ => 0) fs.toList 0 (ks.map fun a => SV.v (.int .i64 a)) (x.k.map fun a => SV.v (.int .i64 a)) _ _ _ 9998 hf ?_ ?_ (by simpa using hl) (by simpa using h1) (eqCells_ints _ _ (by rw [hl, h1]))
      · simp [SV.c1]
      · simp [SV.c1]
    have hkx : (entOf (5 + fs.size) x).key = keyVal (5 + fs.size) x.k := rfl
    have hvx : (entOf (5 + fs.size) x).val = x.v := rfl
    simp only [List.map_cons, Instr.findAsking, hkx, hvx, Sem.run_bind, heq, Result.andThen_ok, findE]
    by_cases hab : ks = x.k
    · simp [hab]
    · simp only [hab, decide_false, Bool.false_eq_true, if_false]
      exact run_findAsking hu hf hp hl l (i + 1) fun y hy => hx y (by simp [hy])
theorem run_findAskingA {t m el : Nat} (hu : P.underlying t = some (.array m el)) (hel : intElem P el = true) {ks : List Int} (hl : ks.length = m) : ∀ (l : List Ent) (i : Nat), (∀ x ∈ l, x.k.length = m) →
    (Instr.findAsking t (keyVal (5 + m) ks) (l.map (entOf (5 + m))) i).run P w = .ok (findE l ks i) w
  | [], i, _ => by simp [Instr.findAsking, findE]
  | x :: l, i, hx => by
    obtain ⟨d1, d2, d3, j, hj, d4, d5⟩ := intElem_spec hel
    have hkv : ∀ k, keyVal (5 + m) k = .agg (k.map (Value.int .i64)).toArray := fun k => by rw [Nat.add_comm]; rfl
    have h1 := hx x (by simp)
    have heq : (Op.equal t (keyVal (5 + m) ks) (keyVal (5 + m) x.k)).run P w = .ok (decide (ks = x.k)) w := by
      rw [hkv, hkv]
      show (Op.equalIn (9999 + 1) t _ _).run P w = _
      rw [run_equalIn_array w 9999 _ _ hu hj, List.range_eq_range']
      refine run_eqItems (β := fun _ => 0) d1 d2 d3 d5 m 0 (ks.map fun a => SV.v (.int .i64 a)) (x.k.map fun a => SV.v (.int .i64 a)) _ _ _ 9998 ?_ ?_ (by simpa using hl) (by simpa using h1) (eqCells_ints _ _ (by rw [hl, h1]))
      · simp [SV.c1]
      · simp [SV.c1]
    have hkx : (entOf (5 + m) x).key = keyVal (5 + m) x.k := rfl
    have hvx : (entOf (5 + m) x).val = x.v := rfl
    simp only [List.map_cons, Instr.findAsking, hkx, hvx, Sem.run_bind, heq, Result.andThen_ok, findE]
    by_cases hab : ks = x.k
    · simp [hab]
    · simp only [hab, decide_false, Bool.false_eq_true, if_false]
      exact run_findAskingA hu hel hl l (i + 1) fun y hy => hx y (by simp [hy])
theorem run_findKey_kind {t kk : Nat} (hk : keyKind P t = some kk) {ks : List Int} (hl : ks.length = keyLen kk) {l : List Ent} (hx : ∀ x ∈ l, x.k.length = keyLen kk) : (Instr.findKey t (keyVal kk ks) (l.map (entOf kk))).run P w = .ok (findE l ks 0) w := by
  rcases keyKind_spec hk with ⟨rfl, hu⟩ | ⟨fs, rfl, hu, hf, hp⟩ | ⟨m, el, rfl, hu, hel⟩
  · match ks, hl with
    | [a], _ =>
      have hkv : keyVal 0 [a] = .int .i64 a := rfl
      simp only [Instr.findKey, Sem.run_bind, run_underlying hu, Result.andThen_ok, hkv, findNow_int l 0 hx, Sem.run_pure]
  · have hkl : keyLen (5 + fs.size) = fs.size := by rw [Nat.add_comm]; simp [keyLen]
    rw [hkl] at hl hx
    have := run_findAsking (P := P) (w := w) hu hf hp hl l 0 hx
    cases l with
    | nil => simp [Instr.findKey, run_underlying hu, Instr.findNow, findE]
    | cons x l =>
      have hkv : ∀ k, keyVal (5 + fs.size) k = .agg (k.map (Value.int .i64)).toArray := fun k => by rw [Nat.add_comm]; rfl
      have hn : Instr.findNow (.struct fs) (keyVal (5 + fs.size) ks) ((x :: l).map (entOf (5 + fs.size))) 0 = none := by
        simp [List.map_cons, Instr.findNow, Instr.sameNow, hkv]
      simp only [Instr.findKey, Sem.run_bind, run_underlying hu, Result.andThen_ok, hn]
      exact this
  · have hkl : keyLen (5 + m) = m := by rw [Nat.add_comm]; simp [keyLen]
    rw [hkl] at hl hx
    have := run_findAskingA (P := P) (w := w) hu hel hl l 0 hx
    cases l with
    | nil => simp [Instr.findKey, run_underlying hu, Instr.findNow, findE]
    | cons x l =>
      have hkv : ∀ k, keyVal (5 + m) k = .agg (k.map (Value.int .i64)).toArray := fun k => by rw [Nat.add_comm]; rfl
      have hn : Instr.findNow (.array m el) (keyVal (5 + m) ks) ((x :: l).map (entOf (5 + m))) 0 = none := by
        simp [List.map_cons, Instr.findNow, Instr.sameNow, hkv]
      simp only [Instr.findKey, Sem.run_bind, run_underlying hu, Result.andThen_ok, hn]
      exact this

theorem sameBits_key (kk : Nat) (ks : List Int) (h1 : ks.length = keyLen kk) : Instr.sameBits 10000 (keyVal kk ks) (keyVal kk ks) = true := by
  match kk with
  | 0 => match ks, h1 with | [a], _ => simp [keyVal, Instr.sameBits]
  | kk + 1 =>
    have key : ∀ (d : Nat) (us : Array Value), ((us.toList.zip us.toList).all fun (x, y) => Instr.sameBits d x y) = true → Instr.sameBits (d + 1) (.agg us) (.agg us) = true := fun d us hh => by
      unfold Instr.sameBits
      rw [hh]; simp
    refine key 9999 _ ?_
    rw [List.all_eq_true]
    intro p hp
    simp only at hp
    have : ∀ (l : List Int) (p : Value × Value), p ∈ (l.map (Value.int .i64)).zip (l.map (Value.int .i64)) → ∃ z, p = (.int .i64 z, .int .i64 z) := by
      intro l
      induction l with
      | nil => intro p hp; cases hp
      | cons x l ih =>
        intro p hp
        simp only [List.map_cons, List.zip_cons_cons] at hp
        rcases List.mem_cons.1 hp with rfl | hp
        · exact ⟨x, rfl⟩
        · exact ih p hp
    obtain ⟨z, rfl⟩ := this ks p hp
    simp [Instr.sameBits]

theorem zeroOf_spec {t : Nat} {z : Value} (hz : zeroOf P t = some z) : (zeroValue t).run P w = .ok z w := by
  unfold zeroOf at hz
  split at hz
  · rename_i i hi
    simp [zeroValue, typeInfo, hi, hz]
  · cases hz
theorem keyKind_ge {t kk : Nat} (hk : keyKind P t = some kk) : kk = 0 ∨ 5 ≤ kk := by
  rcases keyKind_spec hk with ⟨rfl, _⟩ | ⟨fs, rfl, _⟩ | ⟨m, el, rfl, _⟩
  · exact .inl rfl
  · exact .inr (by omega)
  · exact .inr (by omega)

theorem execV_lookup (r : Rel n β L e a) {o : Oper} {t kt el kk : Nat} {z : Value} {x k : Operand} {ok : Bool} (hop : o.op = .lookup t x k ok) (hu : P.underlying t = some (.map kt el)) (hk : keyKind P kt = some kk) (hz : zeroOf P el = some z) {V : SV → Prop}
    (hv : wpV (.lookup kk z (lowArg x) (lowArg k) ok) e L h V) : ∃ sv, V sv ∧ sv.ok L ∧ Yields P o a β L h sv := by
  have hx := r.eval x
  have hkx := r.eval k
  simp only [wpV] at hv
  split at hv
  · rename_i b ks hp hq
    obtain ⟨l, clk, ⟨hm, hkeys⟩, kk'⟩ := hv
    obtain ⟨e1, e2⟩ := keyNums_spec (β := β) hq (keyKind_ge hk)
    rw [e1] at hkx
    rw [hp] at hx
    have run : ∀ w, See β L h w → (Instr.lookup t (a.eval x) (a.eval k) ok).run P w = .ok (if ok then .tuple #[(assoc l ks).getD z, .bool (assoc l ks).isSome] else (assoc l ks).getD z) w := fun w hw => by
      have hb := hw.hw _ _ hm
      have hg : (getObj b).run P w = .ok (.map (l.map (entOf kk)).toArray clk) w := by simp [getObj, Sem.run, hb, mapObj]
      have hf := findE_assoc ks l 0
      rw [← hf]
      simp only [Instr.lookup, Sem.run_bind, run_underlying hu, Result.andThen_ok, hx, SV.c, SV.c1, hg, Sem.run_pure, hkx, run_checkKey_kind hk e2, run_findKey_kind hk e2 hkeys]
      cases hfe : findE l ks 0 with
      | none => simp [zeroOf_spec hz]
      | some p => simp
    cases ok with
    | true => exact ⟨_, kk', trivial, fun w hw => by simp only [execOp, hop, Sem.run_bind, run w hw, Result.andThen_ok, Sem.run_pure]; rfl⟩
    | false => exact ⟨_, kk', trivial, fun w hw => by simp only [execOp, hop, Sem.run_bind, run w hw, Result.andThen_ok, Sem.run_pure]; rfl⟩
  · exact hv.elim

theorem execV_lenM (r : Rel n β L e a) {o : Oper} {t kt el : Nat} {x : Operand} (hop : o.op = .call { callee := .builtin .len, args := #[x], argTypes := #[t] }) (hu : P.underlying t = some (.map kt el)) {V : SV → Prop}
    (hv : wpV (.lenM (lowArg x)) e L h V) : ∃ sv, V sv ∧ sv.ok L ∧ Yields P o a β L h sv := by
  have hx := r.eval x
  simp only [wpV] at hv
  split at hv
  · rename_i b hp
    obtain ⟨kk, l, clk, ⟨hm, hkeys⟩, kk'⟩ := hv
    rw [hp] at hx
    refine ⟨_, kk', trivial, fun w hw => ?_⟩
    have hb := hw.hw _ _ hm
    have hg : (getObj b).run P w = .ok (.map (l.map (entOf kk)).toArray clk) w := by simp [getObj, Sem.run, hb, mapObj]
    simp [execOp, hop, resolve, invoke, builtin, hx, SV.c, SV.c1, Builtin.len_, run_underlying hu, goInt, hg]
  · exact hv.elim

theorem exec_mkmap {o : Oper} {t : Nat} (hop : o.op = .makeMap t none) {K : KT} {next : Act → World → Prop} {Q : Exit → Act → World → Prop} (ho : Out h0 w0 n Any K next)
    (m : Mem h0 w0 β L h w) (r : Rel n β L e a) (hL : OkL L) (hp : wpK P n .mkmap o.dst e L h K) : o.wp P a w next Q := by
  obtain ⟨k⟩ := hp
  have hk := k w.heap.size (m.see.hw.out (Nat.le_refl _))
  refine wp_value (v := .map (some w.heap.size)) (w' := { w with heap := w.heap.push (.map #[] 0) }) (by simp [execOp, hop, Instr.makeMap]) ?_
  exact putS_sound ho trivial (m.pushO _) r hL (x := .v _) trivial hk

theorem run_stays (kk : Nat) (ks : List Int) (h1 : ks.length = keyLen kk) : (Instr.keyThatStays (keyVal kk ks) (keyVal kk ks)).run P w = .ok (keyVal kk ks) w := by
  simp [Instr.keyThatStays, sameBits_key kk ks h1]

theorem exec_mapupd {o : Oper} {t kt el kk : Nat} {x k v : Operand} (hop : o.op = .mapUpdate t x k v) (hu : P.underlying t = some (.map kt el)) (hk : keyKind P kt = some kk) {K : KT} {next : Act → World → Prop} {Q : Exit → Act → World → Prop} (ho : Out h0 w0 n Any K next)
    (m : Mem h0 w0 β L h w) (r : Rel n β L e a) (hL : OkL L) (hp : wpK P n (.mapupd kk (lowArg x) (lowArg k) (lowArg v)) o.dst e L h K) : o.wp P a w next Q := by
  have hx := r.eval x
  have hkx := r.eval k
  have hvx := r.eval v
  simp only [wpK] at hp
  split at hp
  · rename_i b ks y hp1 hq hy
    obtain ⟨l, clk, ⟨hm, hkeys⟩, kk'⟩ : ∃ l clk, MapAt h b kk l clk ∧ putS n o.dst (.v undef) e L (h.put b (mapObj kk (Sx.upsert l ks y clk) (if (assoc l ks).isSome then clk else clk + 1))) K := by
      rcases hp with ⟨l, clk, hm, k⟩ | ⟨l, clk, hm, k⟩
      · exact ⟨l, clk, hm, k _⟩
      · exact ⟨l, clk, hm, k⟩
    obtain ⟨e1, e2⟩ := keyNums_spec (β := β) hq (keyKind_ge hk)
    rw [e1] at hkx
    rw [hp1] at hx
    rw [hy] at hvx
    have hb := m.see.hw _ _ hm
    have hg : (getObj b).run P w = .ok (.map (l.map (entOf kk)).toArray clk) w := by simp [getObj, Sem.run, hb, mapObj]
    have hset : ∀ o', (setObj b o').run P w = .ok () { w with heap := w.heap.setIfInBounds b o' } := fun o' => by simp [setObj, Sem.run, hb, mapObj]
    have hasc := findE_assoc ks l 0
    have run : ∃ clk', clk' = (if (assoc l ks).isSome then clk else clk + 1) ∧ (Instr.mapUpdate t (a.eval x) (a.eval k) (a.eval v)).run P w = .ok () { w with heap := w.heap.setIfInBounds b (mapObj kk (upsert l ks y clk) clk') } := by
      cases hfe : findE l ks 0 with
      | none =>
        rw [hfe] at hasc
        refine ⟨clk + 1, by rw [← hasc]; rfl, ?_⟩
        rw [findE_none l 0 hfe]
        simp only [Instr.mapUpdate, Sem.run_bind, run_underlying hu, Result.andThen_ok, hx, SV.c, SV.c1, hg, hkx, run_checkKey_kind hk e2, run_findKey_kind hk e2 hkeys, hfe, hset, hvx]
        congr 3
        simp [mapObj, entOf]
      | some p =>
        obtain ⟨j, u⟩ := p
        rw [hfe] at hasc
        obtain ⟨q, h1, x', h2, h3, h4⟩ := findE_some (v := y) (c := clk) l 0 hfe
        rw [Nat.zero_add] at h1
        subst h1
        refine ⟨clk, by rw [← hasc]; rfl, ?_⟩
        have hold : (((l.map (entOf kk)).toArray[j]?).map (·.key)).getD (keyVal kk ks) = keyVal kk ks := by simp [h2, entOf, h3]
        simp only [Instr.mapUpdate, Sem.run_bind, run_underlying hu, Result.andThen_ok, hx, SV.c, SV.c1, hg, hkx, run_checkKey_kind hk e2, run_findKey_kind hk e2 hkeys, hfe, hold, run_stays kk ks e2, hset, hvx]
        rw [h4]
        congr 3
        simp only [mapObj]
        congr 1
        apply Array.ext_getElem?
        intro i
        rw [Array.getElem?_modify]
        simp only [List.getElem?_toArray, List.map_set, List.getElem?_set, List.getElem?_map, List.length_map]
        by_cases hi : j = i
        · subst hi
          obtain ⟨h5, h6⟩ := List.getElem?_eq_some_iff.1 h2
          simp [h5, entOf, h3, h6]
        · simp [hi]
    obtain ⟨clk', hce, hrun⟩ := run
    rw [← hce] at kk'
    refine wp_skip' (w' := { w with heap := w.heap.setIfInBounds b (mapObj kk (upsert l ks y clk) clk') }) (by simp [execOp, hop, hrun]) ?_
    exact putS_sound ho trivial (m.writeO hm _) r hL (x := .v undef) trivial kk'
  · exact hp.elim
theorem Mem.drewO (m : Mem h0 w0 β L h w) : Mem h0 w0 β L h w.drew :=
  ⟨⟨m.see.hw, fun i l hl => by cases l <;> exact m.see.see i _ hl⟩, m.hole, m.inj, m.lt, m.lo, m.os, m.tape, m.output, m.size, m.frame, m.fresh⟩
theorem exec_range {o : Oper} {t kt el : Nat} {x : Operand} (hop : o.op = .range t x) (hu : P.underlying t = some (.map kt el)) {K : KT} {next : Act → World → Prop} {Q : Exit → Act → World → Prop} (ho : Out h0 w0 n Any K next)
    (m : Mem h0 w0 β L h w) (r : Rel n β L e a) (hL : OkL L) (hp : wpK P n (.range (lowArg x)) o.dst e L h K) : o.wp P a w next Q := by
  have hx := r.eval x
  simp only [wpK] at hp
  split at hp
  · rename_i b hp1
    obtain ⟨es, clk, hb, k⟩ := hp
    rw [hp1] at hx
    have hbw := m.see.hw _ _ hb
    have hk := k w.heap.size (m.see.hw.out (Nat.le_refl _))
    refine wp_value (v := .pointer (some ⟨w.heap.size, 0, none⟩)) (w' := { w with heap := w.heap.push (.mapIter (some b) clk #[] clk) }) ?_ ?_
    · have hg : (getObj b).run P w = .ok (.map es clk) w := by simp [getObj, Sem.run, hbw]
      have hn : ∀ o', (newObj o').run P w = .ok w.heap.size { w with heap := w.heap.push o' } := fun o' => by simp [newObj, Sem.run]
      simp only [execOp, hop, Instr.range, Sem.run_bind, run_underlying hu, Result.andThen_ok, hx, SV.c, SV.c1, hg, Sem.run_pure, hn]
    · exact putS_sound ho trivial (m.pushO _) r hL (x := .v _) trivial hk
  · exact hp.elim
theorem exec_next {o : Oper} {x : Operand} (hop : o.op = .next x false) {K : KT} {next : Act → World → Prop} {Q : Exit → Act → World → Prop} (ho : Out h0 w0 n Any K next)
    (m : Mem h0 w0 β L h w) (r : Rel n β L e a) (hL : OkL L) (hp : wpK P n (.next (lowArg x)) o.dst e L h K) : o.wp P a w next Q := by
  have hx := r.eval x
  simp only [wpK] at hp
  split at hp
  · rename_i q hp1
    obtain ⟨bm, since, c0, clk, seen, es, hr, hb, hold, hsc, done, more⟩ := hp
    rw [hp1] at hx
    have hrw := m.see.hw _ _ hr
    have hbw := m.see.hw _ _ hb
    rcases run_next_at (P := P) w o.type q bm since c0 seen es clk hrw hbw hold hsc with ⟨hz, hrun⟩ | ⟨en, hen, w1, hw1, hrun⟩
    · refine wp_value (v := .tuple #[.bool false]) (w' := w) (by simp [execOp, hop, hx, SV.c, SV.c1, hrun]) ?_
      exact putS_sound ho trivial m r hL (x := .v _) trivial (done hz)
    · refine wp_value (v := .tuple #[.bool true, en.key, en.val]) (w' := Go.ChangeMaps.setBlock w1 q (.mapIter (some bm) since (seen.push en.born) clk)) (by simp [execOp, hop, hx, SV.c, SV.c1, hrun]) ?_
      have m1 : Mem h0 w0 β L h w1 := by
        rcases hw1 with rfl | rfl
        · exact m
        · exact m.drewO
      exact putS_sound ho trivial (m1.writeO hr _) r hL (x := .v _) trivial (more en hen)
  · exact hp.elim
theorem exec_entry {o : Oper} {x : Operand} (hop : o.op = .entry x) {K : KT} {next : Act → World → Prop} {Q : Exit → Act → World → Prop} (ho : Out h0 w0 n Any K next)
    (m : Mem h0 w0 β L h w) (r : Rel n β L e a) (hL : OkL L) (hp : wpK P n (.entry (lowArg x)) o.dst e L h K) : o.wp P a w next Q := by
  have hx := r.eval x
  simp only [wpK] at hp
  split at hp
  · rename_i q hp1
    obtain ⟨bm, since, clk, seen, es, en, hr, hb, he, hn, k⟩ := hp
    rw [hp1] at hx
    have hrw := m.see.hw _ _ hr
    have hbw := m.see.hw _ _ hb
    have hrun := run_entry_at (P := P) w q bm since seen es clk en hrw hbw he hn
    refine wp_value (v := .tuple #[en.key, en.val]) (w' := w) (by simp [execOp, hop, hx, SV.c, SV.c1, hrun]) ?_
    exact putS_sound ho trivial m r hL (x := .v _) trivial k
  · exact hp.elim
theorem MapAt.upsert {h : Hp} {b kk : Nat} {l : List Ent} {clk : Nat} (m : MapAt h b kk l clk) {ks : List Int} (h1 : ks.length = keyLen kk) (v : Value) (clk' : Nat) : MapAt (h.put b (mapObj kk (Sx.upsert l ks v clk) clk')) b kk (Sx.upsert l ks v clk) clk' := by
  refine ⟨Hp.put_same _ _ _, ?_⟩
  have : ∀ l : List Ent, (∀ x ∈ l, x.k.length = keyLen kk) → ∀ x ∈ Sx.upsert l ks v clk, x.k.length = keyLen kk := by
    intro l
    induction l with
    | nil => intro _ x hx; simp only [Sx.upsert, List.mem_singleton] at hx; subst hx; exact h1
    | cons y l ih =>
      intro hl x hx
      simp only [Sx.upsert] at hx
      split at hx
      · rcases List.mem_cons.1 hx with rfl | hx
        · exact hl y (by simp)
        · exact hl x (by simp [hx])
      · rcases List.mem_cons.1 hx with rfl | hx
        · exact hl _ (by simp)
        · exact ih (fun z hz => hl z (by simp [hz])) x hx
  exact this l m.keys
end
end Go.Sx
