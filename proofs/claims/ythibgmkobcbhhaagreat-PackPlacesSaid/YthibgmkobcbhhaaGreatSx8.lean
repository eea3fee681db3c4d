/- Each operation that changes memory, and calls: what its rule says is what the model does. Conditions: none. -/
import Derived.Test.YthibgmkobcbhhaaGreatSx7
namespace Go.Sx
open Go.RowKit
section
variable {P : Program} {h0 : Hp} {w0 : World} {n : Nat} {β : Nat → Nat} {L : List LE} {h : Hp} {e : Env} {a : Act} {w : World}

theorem flat_get {α : Type} (l : List α) : ∀ k j, j < k * l.length → (List.replicate k l).flatten[j]? = l[j % l.length]?
  | 0, j, h => by simp at h
  | k + 1, j, h => by
    rw [List.replicate_succ, List.flatten_cons, List.getElem?_append]
    split
    · rename_i hj; rw [Nat.mod_eq_of_lt hj]
    · rename_i hj
      have hle : l.length ≤ j := Nat.le_of_not_lt hj
      rw [flat_get l k (j - l.length) (by rw [Nat.add_mul] at h; omega), Nat.mod_eq_sub_mod hle]
theorem made_flat {z : Array Value} {s : Nat} (hz : z.size = s) (k : Nat) : (madeCells z (k * s)).toList = (List.replicate k z.toList).flatten := by
  subst hz
  apply List.ext_getElem?
  intro j
  by_cases hj : j < k * z.size
  · have hp : 0 < z.size := by
      rcases Nat.eq_zero_or_pos z.size with e | e
      · rw [e] at hj; omega
      · exact e
    have hm : j % z.size < z.size := Nat.mod_lt _ hp
    rw [flat_get z.toList k j (by simpa using hj)]
    simp [madeCells, hj, hm]
  · rw [List.getElem?_eq_none (by simp [madeCells]; omega), List.getElem?_eq_none (by simp; omega)]

theorem exec_bslice {o : Oper} {t el len : Nat} {ps : Array (Nat × Operand)} {i : TypeInfo} {z : Value} (hop : o.op = .buildSlice t len ps) (hu : P.underlying t = some (.slice el)) (hi : P.info? el = some i) (hz : i.zero = some z) (hzs : z.cells.size = i.size)
    {K : KT} {next : Act → World → Prop} {Q : Exit → Act → World → Prop} {C : (Nat → Nat) → Prop} (hC : ∀ β', (∀ i, i < L.length → β' i = β i) → C β') (ho : Out h0 w0 n C K next)
    (m : Mem h0 w0 β L h w) (r : Rel n β L e a) (hL : OkL L) (hp : wpK P n (.bslice el len i.size z.cells.toList (ps.toList.map fun p => (p.1, lowArg p.2))) o.dst e L h K) : o.wp P a w next Q := by
  simp only [wpK, forceN_eq, forceL_eq] at hp
  cases hb : Nat.ble (len * i.size) 16777216 with
  | false => rw [hb] at hp; exact hp.elim
  | true =>
    rw [hb] at hp
    simp only [cond_true, List.map_map] at hp
    split at hp
    · rename_i cs hcs
      have hle : len * i.size ≤ 16777216 := Nat.le_of_ble_eq_true hb
      refine new_own hC ho m r hL (cells := cs) (ty := el) ?_ (sv := .s L.length 0 len len) (fun β' hb' => ?_) (refOk_new _ _) hp
      · exact fillS_ok _ _ _ hcs (repS_ok _ _) fun q hq => by
          obtain ⟨p, _, rfl⟩ := List.mem_map.1 hq
          exact r.okArg p.2
      · have hf := fill_c (β := β) (fun j => some (j * i.size, i.size)) (fun p : Nat × Operand => (p.1, (lowArg p.2).get e)) (fun p => (p.1 * i.size, i.size, (lowArg p.2).get e)) ps.toList (repS len z.cells.toList) cs (fun p _ => ⟨rfl, rfl⟩) hcs
        have hfe : (List.map (fun x : Nat × Operand => (x.1, SV.c β (Arg.get e (lowArg x.2)))) ps.toList) = (List.map (fun x : Nat × Operand => (x.1, a.eval x.2)) ps.toList) :=
          List.map_congr_left fun p _ => by rw [r.eval p.2]
        simp only at hf
        rw [hfe, repS_c] at hf
        have hmade := made_flat (z := z.cells) hzs len
        by_cases hq : len * i.size = 0
        · have hnil : (List.replicate len z.cells.toList).flatten = [] := List.eq_nil_of_length_eq_zero (by simp [hzs, hq])
          rw [hnil] at hf
          simp [execOp, hop, Instr.buildSlice, run_underlying hu, run_sizeOf hi, hq, newRow, SV.c, SV.c1, hb', hf, Array.range_zero']
        · have h24 : ¬ (len * i.size > 2 ^ 24) := by simp; omega
          have hm' : ((Array.range (len * i.size)).map fun k => z.cells[k % z.cells.size]!) = (List.replicate len z.cells.toList).flatten.toArray :=
            Array.ext' hmade
          have h25 : ¬ (16777216 < len * i.size) := by omega
          simp [execOp, hop, Instr.buildSlice, run_underlying hu, run_sizeOf hi, h25, hq, zeroValue, typeInfo, hi, hz, hm', hf, newRow, SV.c, SV.c1, hb']
    · exact hp.elim

/-- A block of the partial heap is written anew. -/
theorem Mem.writeH (m : Mem h0 w0 β L h w) {b ty : Nat} {cs cs' : List Value} (hb : h b = some (.cells cs.toArray ty (0, 0))) :
    Mem h0 w0 β L (h.put b (.cells cs'.toArray ty (0, 0))) (wr w b ty cs') := by
  have hlt : b < w.heap.size := m.see.hw.lt (by rw [hb]; simp)
  have hne : ∀ i l, nth L i = some l → l.live = true → β i ≠ b := fun i l hl hv e => by
    have := m.hole i l hl hv
    rw [e, hb] at this; cases this
  refine ⟨⟨fun j o hj => ?_, fun i l hl => ?_⟩, fun i l hl hv => ?_, m.inj, fun i l hl hv => by rw [wr_size]; exact m.lt i l hl hv, m.lo, m.os, m.tape, m.output, by rw [wr_size]; exact m.size, fun j hj hn => ?_, fun j hj => ?_⟩
  · by_cases e : j = b
    · subst e; rw [Hp.put_same] at hj; injection hj with hj; subst hj; exact wr_same w _ hlt
    · rw [Hp.put_ne _ _ e] at hj; rw [wr_ne w _ e]; exact m.see.hw j o hj
  · have hs := m.see.see i l hl
    cases l with
    | own cs2 ty' => simp only [LE.sees] at hs ⊢; rw [wr_ne w _ (hne i _ hl rfl)]; exact hs
    | pub b' => exact hs
    | row ety size A n cap xs =>
      simp only [LE.sees] at hs ⊢
      obtain ⟨⟨h1, h2⟩, h3⟩ := hs
      refine ⟨⟨h1, ?_⟩, h3⟩
      rcases h2 with h2 | ⟨g, c, cur, e1, e2, e3, e4⟩
      · exact .inl h2
      · injection e1 with e1 e1' e1''
        have hg := h3 _ e1
        subst e1
        exact .inr ⟨g, c, cur, by rw [e1''], e2, by rw [wr_ne w _ (by have := hne i _ hl rfl; simp at hg; rw [hg]; exact this)]; exact e3, e4⟩
    | map f k => simp only [LE.sees] at hs ⊢; rw [wr_ne w _ (hne i _ hl rfl)]; exact hs
    | gone => trivial
  · rw [Hp.put_ne _ _ (hne i l hl hv)]; exact m.hole i l hl hv
  · by_cases e : j = b
    · subst e
      rcases m.fresh j (by rw [hb]; simp) with e | e
      · exact absurd hn e
      · omega
    · rw [wr_ne w _ e]; exact m.frame j hj hn
  · by_cases e : j = b
    · subst e; exact m.fresh j (by rw [hb]; simp)
    · rw [Hp.put_ne _ _ e] at hj; exact m.fresh j hj

theorem over_append {α : Type} (rest : List α) : ∀ (off : Nat) (l ys r : List α), over l off ys = some r → over (l ++ rest) off ys = some (r ++ rest)
  | 0, l, [], r, h => by simp [over] at h; subst h; simp [over]
  | 0, [], y :: ys, r, h => by simp [over] at h
  | 0, x :: l, y :: ys, r, h => by
    simp only [over] at h
    split at h
    · rename_i r' hr
      injection h with h; subst h
      simp [over, over_append rest 0 l ys r' hr]
    · cases h
  | off + 1, [], ys, r, h => by simp [over] at h
  | off + 1, x :: l, ys, r, h => by
    simp only [over] at h
    split at h
    · rename_i r' hr
      injection h with h; subst h
      simp [over, over_append rest off l ys r' hr]
    · cases h

theorem evstore_sound {vs : List Value} {K : List LE → Hp → Prop} {ad : Addr} (m : Mem h0 w0 β L h w) (hL : OkL L) (hp : EvStore L h ad vs K) {t : Nat} (ht : tyOk P t = true) {v : Value} (hv : v.cells.toList = vs) (hl : vs.length = tySize P t) (h1 : ∀ u ∈ vs, u.oneCell' = true) :
    ∃ L' h' w', K L' h' ∧ (storeVar t ad v).run P w = .ok () w' ∧ Mem h0 w0 β L' h' w' ∧ OkL L' ∧ (∀ i, refOk L i → refOk L' i) := by
  cases hp with
  | hp b off ty cs cs' ha hb ho k =>
    subst ha
    exact ⟨_, _, _, k, run_storeVar ht (by rw [hv]; exact hl) (m.see.hw _ _ hb) (by rw [hv]; exact h1) (by rw [hv]; exact ho), m.writeH hb, hL, fun _ => id⟩
  | row i ety size g nn cap xs xs' j hi ha ho k =>
    obtain ⟨⟨q1, q2⟩, q3⟩ := m.see.see i _ hi
    rcases q2 with ⟨q2, _⟩ | ⟨g', c, cur, e1, e2, e3, e4, e5, e6, e7⟩
    · cases q2
    · injection e1 with e1 e1' e1''
      injection e1 with e1
      subst e1
      subst e1''
      have hg := q3 _ rfl
      simp only at hg
      subst hg
      rw [ha, add_lit]
      -- the whole block
      have hol := over_len _ _ _ _ ho
      have hsplit : cur.toList = xs ++ cur.toList.drop (nn * size) := by
        rw [← e7]; exact (List.take_append_drop _ _).symm
      have hov : over cur.toList (0 + j) vs = some (xs' ++ cur.toList.drop (nn * size)) := by
        have hq := over_append (cur.toList.drop (nn * size)) _ _ _ _ ho
        rw [← hsplit] at hq
        rw [Nat.zero_add]
        exact hq
      have hrun := run_storeVar (P := P) ht (b := β i) (off := 0 + j) (ty := ety) (v := v) (w := w) (cs := cur.toList) (by rw [hv]; exact hl) (by simpa using e3) (by rw [hv]; exact h1) (by rw [hv]; exact hov)
      obtain ⟨m', href⟩ := m.write (l' := .row ety size (some ⟨β i, 0, none⟩) nn cap xs') hi rfl rfl rfl (ty := ety) (cs := xs' ++ cur.toList.drop (nn * size)) (by
        refine ⟨⟨by rw [hol.1]; exact q1, .inr ⟨β i, cap, _, rfl, Nat.zero_le _, wr_same w _ (m.lt i _ hi rfl), e4, e5, ?_, ?_⟩⟩, fun g e => by injection e with e; subst e; rfl⟩
        · simp only [List.size_toArray, List.length_append, hol.1]
          rw [← List.length_append, ← hsplit]; simpa using e6
        · simp only
          rw [List.take_append_of_le_length (by rw [hol.1, q1]; exact Nat.le_refl _), List.take_of_length_le (by rw [hol.1, q1]; exact Nat.le_refl _)])
      exact ⟨_, _, _, k, hrun, m', hL.setOther (nth_lt hi) href (fun _ _ e => by cases e), href⟩

theorem exec_store {o : Oper} {t : TypeId} {x y : Operand} (hop : o.op = .store t x y) (ht : tyOk P t = true) {K : KT} {next : Act → World → Prop} {Q : Exit → Act → World → Prop} (ho : Out h0 w0 n Any K next)
    (m : Mem h0 w0 β L h w) (r : Rel n β L e a) (hL : OkL L) (hp : wpK P n (.store (tySize P t) (lowArg x) (lowArg y)) o.dst e L h K) : o.wp P a w next Q := by
  have hx := r.eval x
  have hy := r.eval y
  simp only [wpK] at hp
  split at hp
  · rename_i cs hcs
    cases hb : (ones cs && Nat.beq cs.length (tySize P t)) with
    | false => rw [hb] at hp; exact hp.elim
    | true =>
      rw [hb] at hp
      simp only [Bool.and_eq_true] at hb
      simp only [cond_true] at hp
      have hlen : cs.length = tySize P t := Nat.eq_of_beq_eq_true hb.2
      have hcc := cellsOf_c (β := β) hcs
      have h1 := ones_c (β := β) hb.1
      have raw : ∀ ad : Addr, ((lowArg x).get e).c β = .pointer (some ad) → pubs 40 cs (fun L h => match raws L cs with
          | some vs => EvStore L h ad vs fun L h => putS n o.dst (.v undef) e L h K
          | none => False) L h → o.wp P a w next Q := by
        intro ad had hpp
        obtain ⟨L', h', k1, m', hL', href, _⟩ := pubs_sound cs _ _ _ m hL hpp
        split at k1
        · rename_i vs hvs
          have hv := raws_c m'.see cs vs hvs
          obtain ⟨L2, h2, w2, q1, q2, q3, q4, q5⟩ := evstore_sound (P := P) m' hL' k1 ht (v := ((lowArg y).get e).c β) (by rw [hcc, hv]) (by rw [← hv]; simp [hlen]) (by rw [← hv]; exact h1)
          refine wp_skip' (w' := w2) (by simp [execOp, hop, hx, hy, had, Instr.storeAt, Instr.sureAddr, q2]) ?_
          exact putS_sound ho trivial q3 (r.agree (fun _ _ => rfl) fun i hi => q5 i (href i hi)) q4 (x := .v undef) trivial q1
        · exact k1.elim
      split at hp
      · rename_i i off hpx
        split at hp
        · rename_i xs ty hi
          split at hp
          · rename_i xs' hov
            have hsee := m.see.see i _ hi
            simp only [LE.sees] at hsee
            have hov' := over_map (SV.c1 β) _ _ _ _ hov
            have hrun := run_storeVar (P := P) ht (b := β i) (off := off) (ty := ty) (v := ((lowArg y).get e).c β) (w := w) (by rw [hcc]; simp [hlen]) hsee (by rw [hcc]; exact h1) (by rw [hcc]; exact hov')
            have hok : ∀ z ∈ xs', z.ok1 L := fun z hz => by
              rcases over_mem hov hz with hz | hz
              · exact hL i xs ty hi z hz
              · exact cellsOf_ok hcs (r.okArg y) z hz
            obtain ⟨m', href⟩ := m.write (l' := .own xs' ty) hi rfl rfl rfl (ty := ty) (cs := xs'.map (SV.c1 β)) (by simp only [LE.sees]; exact wr_same w _ (m.lt i _ hi rfl))
            refine wp_skip' (w' := wr w (β i) ty (xs'.map (SV.c1 β))) (by simp [execOp, hop, hx, hy, hpx, SV.c1, SV.c, Instr.storeAt, Instr.sureAddr] at hrun ⊢; simp [hrun]) ?_
            exact putS_sound ho trivial m' (r.agree (fun _ _ => rfl) href) (hL.setOwn (nth_lt hi) href hok) (x := .v undef) trivial (by rwa [forceL_eq] at hp)
          · exact hp.elim
        · rename_i b hi
          exact raw ⟨b, off, none⟩ (by rw [hpx]; exact see_pub m.see hi) hp
        · exact hp.elim
      · rename_i ad hpx
        exact raw ad (by rw [hpx]; rfl) hp
      · exact hp.elim
  · exact hp.elim

theorem run_callFunc {f : FuncId} {args : Array Value} (hb : ∃ fn, P.funcs[f]? = some fn ∧ fn.body.isSome = true ∧ (fn.name == "runtime.NumGoroutine") = false) : (callFunc f args).run P w = .ok (.enter f args) w := by
  obtain ⟨fn, h1, h2, h3⟩ := hb
  have h4 : fn.body.isNone = false := by cases hq : fn.body <;> simp_all
  simp only [callFunc, Sem.run_bind, run_program, Result.andThen_ok, h1, h3, h4, Bool.false_eq_true, if_false, Sem.run_pure]

/-- After a call. -/
theorem Mem.ext (m : Mem h0 w0 β L h w) {h' : Hp} {w' : World} (x : Ext h w h' w') : Mem h0 w0 β L h' w' := by
  have hblk : ∀ i l, nth L i = some l → l.live = true → w'.heap[β i]? = w.heap[β i]? := fun i l hl hv => x.frame _ (m.lt i l hl hv) (m.hole i l hl hv)
  refine ⟨⟨x.hw, fun i l hl => ?_⟩, fun i l hl hv => ?_, m.inj, fun i l hl hv => Nat.lt_of_lt_of_le (m.lt i l hl hv) x.size, m.lo, x.os.trans m.os, x.tape.trans m.tape, x.output.trans m.output, Nat.le_trans m.size x.size, fun j hj hn => ?_, fun j hj => ?_⟩
  · have hs := m.see.see i l hl
    cases l with
    | own cs ty => simp only [LE.sees] at hs ⊢; rw [hblk i _ hl rfl]; exact hs
    | pub b => exact hs
    | row ety size A nn cap xs =>
      simp only [LE.sees] at hs ⊢
      obtain ⟨⟨h1, h2⟩, h3⟩ := hs
      refine ⟨⟨h1, ?_⟩, h3⟩
      rcases h2 with h2 | ⟨g, c, cur, e1, e2, e3, e4⟩
      · exact .inl h2
      · injection e1 with e1 e1' e1''
        have hg := h3 _ e1
        subst e1
        simp only at hg
        refine .inr ⟨g, c, cur, by rw [e1''], e2, ?_, e4⟩
        rw [hg, hblk i _ hl rfl, ← hg]; exact e3
    | map f k => simp only [LE.sees] at hs ⊢; rw [hblk i _ hl rfl]; exact hs
    | gone => trivial
  · cases hq : h' (β i) with
    | none => rfl
    | some o =>
      rcases x.fresh (β i) (by rw [hq]; simp) with hh | hh
      · exact absurd (m.hole i l hl hv) hh
      · have := m.lt i l hl hv; omega
  · have : h j = none := by
      cases hq : h j with
      | none => rfl
      | some o =>
        rcases m.fresh j (by rw [hq]; simp) with hh | hh
        · exact absurd hn hh
        · omega
    rw [x.frame j (Nat.lt_of_lt_of_le hj m.size) this]
    exact m.frame j hj hn
  · rcases x.fresh j hj with hh | hh
    · exact m.fresh j hh
    · exact .inr (Nat.le_trans m.size hh)

theorem wpCall_sound {o : Oper} {f : FuncId} {svs : List SV} {K : KT} {next : Act → World → Prop} {Q : Exit → Act → World → Prop} (ho : Out h0 w0 n Any K next)
    (m : Mem h0 w0 β L h w) (r : Rel n β L e a) (hL : OkL L) (hp : wpCall P n f svs o.dst e L h K) (hrun : ∀ vs : List Value, svs.map (SV.c β) = vs → (∃ fn, P.funcs[f]? = some fn ∧ fn.body.isSome = true ∧ (fn.name == "runtime.NumGoroutine") = false) → (execOp a.eval o).run P w = .ok (.enter f vs.toArray) w) : o.wp P a w next Q := by
  unfold wpCall at hp
  obtain ⟨L1, h1, k1, m1, hL1, ref1, _⟩ := pubs_sound svs _ _ _ m hL hp
  split at k1
  · rename_i vs hvs
    have hc := rawArgs_c m1.see svs vs hvs
    obtain ⟨β2, L2, h2, k2, m2, hL2, ref2, hβ2⟩ := shift_sound k1 β m1 hL1
    have r2 : Rel n β2 L2 e a := (r.agree (fun _ _ => rfl) ref1).agree hβ2 ref2
    cases k2 with
    | mk R hcall k =>
      unfold Oper.wp
      rw [hrun vs hc hcall.body, Oper.upon_enter]
      refine (hcall.run w m2.see.hw).mono ?_
      rintro ev w' ⟨v, h', rfl, hR, hx⟩
      exact putS_sound ho trivial (m2.ext hx) r2 hL2 (x := .v v) trivial (k v h' hR)
    | mkS R hcall k =>
      unfold Oper.wp
      rw [hrun vs hc hcall.body, Oper.upon_enter]
      refine (hcall.run w m2.see.hw).mono ?_
      rintro ev w' ⟨v, h', rfl, hR, hx⟩
      obtain ⟨β3, L3, h3, k3, m3, hL3, ref3, hβ3⟩ := shift_sound (k v h' hR) β2 (m2.ext hx) hL2
      exact putS_sound ho trivial m3 (r2.agree hβ3 ref3) hL3 (x := .v v) trivial k3
  · exact k1.elim

theorem exec_call {o : Oper} {f : FuncId} {args : Array Operand} {tys : Array TypeId} (hop : o.op = .call { callee := .value (.func f), args := args, argTypes := tys }) {K : KT} {next : Act → World → Prop} {Q : Exit → Act → World → Prop} (ho : Out h0 w0 n Any K next)
    (m : Mem h0 w0 β L h w) (r : Rel n β L e a) (hL : OkL L) (hp : wpK P n (.call f (args.toList.map lowArg)) o.dst e L h K) : o.wp P a w next Q := by
  simp only [wpK] at hp
  refine wpCall_sound ho m r hL hp fun vs hvs hb => ?_
  have he : args.map a.eval = vs.toArray := by
    rw [← hvs]
    apply Array.ext'
    simp only [Array.toList_map, List.map_map]
    exact List.map_congr_left fun x _ => r.eval x
  simp [execOp, hop, resolve, Deferred.ofValue, Act.eval, invoke, he, run_callFunc hb]

theorem exec_callv {o : Oper} {x : Operand} {args : Array Operand} {tys : Array TypeId} (hop : o.op = .call { callee := .value x, args := args, argTypes := tys }) {K : KT} {next : Act → World → Prop} {Q : Exit → Act → World → Prop} (ho : Out h0 w0 n Any K next)
    (m : Mem h0 w0 β L h w) (r : Rel n β L e a) (hL : OkL L) (hp : wpK P n (.callv (lowArg x) (args.toList.map lowArg)) o.dst e L h K) : o.wp P a w next Q := by
  simp only [wpK] at hp
  have hx := r.eval x
  split at hp
  · rename_i f first caps hpx
    rw [hpx] at hx
    refine wpCall_sound ho m r hL hp fun vs hvs hb => ?_
    have he : first ++ args.map a.eval ++ caps = vs.toArray := by
      rw [← hvs]
      apply Array.ext'
      simp only [Array.toList_append, Array.toList_map, List.map_append, List.map_map]
      rw [List.append_assoc]
      have hv : ∀ l : List Value, l.map (SV.c β ∘ SV.v) = l := fun l => by
        induction l with
        | nil => rfl
        | cons y l ih => rw [List.map_cons, ih]; rfl
      rw [hv, hv]
      congr 2
      exact List.map_congr_left fun y _ => r.eval y
    simp only [execOp, hop, resolve, Deferred.ofValue, hx, SV.c, SV.c1, invoke, Sem.run_bind, Sem.run_pure, Result.andThen_ok]
    rw [he, run_callFunc hb]
  · exact hp.elim

theorem exec_mkfunc {o : Oper} {f : FuncId} {first caps : Array Operand} (hop : o.op = .makeFunc (.func f) first caps) (hfirst : first = #[]) {K : KT} {next : Act → World → Prop} {Q : Exit → Act → World → Prop} (ho : Out h0 w0 n Any K next)
    (m : Mem h0 w0 β L h w) (r : Rel n β L e a) (hL : OkL L) (hp : wpK P n (.mkfunc f (caps.toList.map lowArg)) o.dst e L h K) : o.wp P a w next Q := by
  simp only [wpK] at hp
  obtain ⟨L1, h1, k1, m1, hL1, ref1, _⟩ := pubs_sound _ _ _ _ m hL hp
  split at k1
  · rename_i vs hvs
    have hc := rawArgs_c m1.see _ vs hvs
    have he : caps.map a.eval = vs.toArray := by
      rw [← hc]
      apply Array.ext'
      simp only [Array.toList_map, List.map_map]
      exact List.map_congr_left fun x _ => r.eval x
    refine wp_value (w' := w) (v := .func (.func f) #[] vs.toArray) (by simp [execOp, hop, hfirst, Instr.makeFunc, he]) ?_
    exact putS_sound ho trivial m1 (r.agree (fun _ _ => rfl) ref1) hL1 (x := .v _) trivial k1
  · exact k1.elim
end
end Go.Sx
