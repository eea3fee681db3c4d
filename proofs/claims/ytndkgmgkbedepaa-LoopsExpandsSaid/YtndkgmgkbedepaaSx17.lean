/- Range over a function: the statement, code, whole functions. Conditions: none. -/
import Derived.Test.YtndkgmgkbedepaaSx16
namespace Go.Sx
open Go.RowKit
section
variable {P : Program} {h0 h1 : Hp} {w0 w1 : World} {n : Nat} {β : Nat → Nat} {L : List LE} {h : Hp} {e : Env} {a : Act} {w : World} {ro : Option Nat} {ds : List Deferred}

theorem range_sound {sf : List Nat} {x y : Code} (ihx : RdOk P n sf x) (ihy : RdOk P n sf y) {f : Operand} {p gf s0 : Nat} {first caps : Array Value} {Q : Post} (d : DOk s0 h1 w1 ds) (m : Mem h1 w1 β L h w) (r : Rel n β L e a) (hL : OkL L) (hfe : (lowArg f).get e = .v (.func (.func gf) first caps))
    (hp : EvRange P n gf first.toList caps.toList p (fun Q e L h => wpIRY P n true (lower P sf x) (fun x e L h => match x with | .normal => wpIRY P n true (lower P sf y) Q e L h | _ => False) e L h) Q e L h) :
    (Code.rangeFunc f #[p] x y).wpIn (Fr none) 0 P (liftY s0 false ds h1 w1 n Q) { a with defers := ds } w := by
  obtain ⟨slots, hp⟩ := hp
  obtain ⟨L1, h2, k1, m1, hL1, ref1, _⟩ := pubs_sound _ _ _ _ m hL hp
  split at k1
  rotate_left
  · exact k1.elim
  rename_i vs hvs
  have hc := rawArgs_c m1.see _ vs hvs
  obtain ⟨β2, L2, h3, k2, m2, hL2, ref2, hβ2⟩ := shift_sound k1 β m1 hL1
  have r2 : Rel n β2 L2 e a := (r.agree (fun _ _ => rfl) ref1).agree hβ2 ref2
  have hfv : ({ a with defers := ds } : Act).eval f = .func (.func gf) first caps := by
    have := r.eval f
    rw [hfe] at this
    have he : ({ a with defers := ds } : Act).eval = a.eval := by funext x; cases x <;> rfl
    rw [he]; exact this
  have hvt : slots.map (fun t => a.tmps.getD t undef) = vs := by
    rw [← hc, List.map_map]
    exact List.map_congr_left fun t _ => r.env t
  obtain ⟨T, xs, J, Jx, hIt, hmono, hpn, hJ0, hT, round, done, stop⟩ := k2
  have hpl : p < n := Nat.lt_of_succ_le (Nat.le_of_ble_eq_true hpn)
  refine wpIn_rangeFunc fun fn _ => ?_
  -- the two blocks
  let D := w.heap.size
  let l := w.heap.size + 1
  let rec_ : Go.Loop := { state := .ready, pending := none, fn := fn, tmps := a.tmps, params := #[p], assign := x, body := y, defers := D }
  let W2 : World := (w.alloc (.deferred (some []))).alloc (.loop rec_)
  have hW2s : W2.heap.size = w.heap.size + 2 := by show ((w.heap.push _).push _).size = _; simp
  have hW2 : ∀ j, j < w.heap.size → W2.heap[j]? = w.heap[j]? := fun j hj => by
    show ((w.alloc _).alloc _).heap[j]? = _
    rw [heap_alloc_ne _ _ (by simp only [World.size_alloc]; omega), heap_alloc_ne _ _ hj]
  have hW2D : W2.heap[D]? = some (.deferred (some [])) := by
    show ((w.alloc _).alloc _).heap[_]? = _
    rw [heap_alloc_ne _ _ (by simp only [World.size_alloc]; exact Nat.lt_succ_self _)]
    exact World.alloc_heap_new _ _
  have hW2l : W2.heap[l]? = some (.loop rec_) := by
    have := World.alloc_heap_new (w.alloc (.deferred (some []))) (.loop rec_)
    rw [World.size_alloc] at this
    exact this
  have h3l : h3 l = none := m2.see.hw.out (by show _ ≤ w.heap.size + 1; omega)
  have x3 : Ext h3 w (h3.put l (.loop rec_)) W2 := ⟨fun j o hj => by
    by_cases e : j = l
    · subst e; rw [Hp.put_same] at hj; rw [hW2l]; exact hj
    · rw [Hp.put_ne _ _ e] at hj
      rw [hW2 j (m2.see.hw.lt (by rw [hj]; simp))]; exact m2.see.hw j o hj, rfl, rfl, rfl, by rw [hW2s]; omega, fun j hj _ => hW2 j hj, fun j hj => by
    by_cases e : j = l
    · exact .inr (by show _ ≤ j; have : l = w.heap.size + 1 := rfl; omega)
    · rw [Hp.put_ne _ _ e] at hj; exact .inl hj⟩
  have m3 := m2.ext x3
  obtain ⟨h4, b4, m4, hh4⟩ := m3.rebase
  have hlive : ∀ i k, nth L2 i = some k → k.live = true → β2 i < w.heap.size := fun i k hk hv => m2.lt i k hk hv
  have h4D : h4 D = none := by
    cases q : h4 D with
    | none => rfl
    | some o =>
      exfalso
      rcases hh4 D (by rw [q]; simp) with hh | ⟨i, k, hk, hv, he⟩
      · rw [Hp.put_ne _ _ (by show w.heap.size ≠ w.heap.size + 1; omega)] at hh
        exact hh (m2.see.hw.out (Nat.le_refl _))
      · have := hlive i k hk hv
        rw [he] at this
        exact Nat.lt_irrefl _ this
  have h4l : h4 l ≠ none := by
    rcases m4.fresh l (by rw [Hp.put_same]; simp) with hh | hh
    · exact hh
    · rw [hW2s] at hh; have : l = w.heap.size + 1 := rfl; omega
  have d4 : DOk s0 h4 W2 ({ target := .collected D, args := #[] } :: ds) := by
    have hs := m2.size
    refine ⟨by rw [hW2s]; have := d.size; omega, fun dd hdd => ?_, ?_⟩
    · rcases List.mem_cons.1 hdd with rfl | hdd
      · exact ⟨D, rfl, Nat.le_trans d.size hs, by rw [hW2s]; show w.heap.size < _; omega, h4D, hW2D⟩
      · obtain ⟨D', q1, q2, q3, q4, q5⟩ := d.each dd hdd
        refine ⟨D', q1, q2, by rw [hW2s]; omega, b4.none_ q3 q4, ?_⟩
        rw [b4.frame D' q3 q4]; exact q5
    · refine List.pairwise_cons.2 ⟨fun dd hdd he => ?_, d.diff⟩
      obtain ⟨D', q1, q2, q3, q4, q5⟩ := d.each dd hdd
      rw [q1] at he
      injection he with he _
      injection he with he
      have : D = w.heap.size := rfl
      omega
  -- the function that is ranged over
  have hfn := hIt l (fun pre H => ∃ hh, H = hh.put l (.loop rec_) ∧ hh l = none ∧ J pre hh)
    (fun pre H => ∃ ex c hh, jumpOf ex = some c ∧ H = hh.put l (.loop { rec_ with state := .done, pending := some c }) ∧ hh l = none ∧ Jx ex pre hh)
    (fun pre H ⟨hh, q1, q2, q3⟩ => by rw [q1]; exact hmono _ _ (Hp.le_put q2) (hT pre hh q3))
    (fun pre z H ⟨hh, q1, q2, q3⟩ hpre => by
      subst q1
      exact round_sound ihx ihy hpl r.size hvt q2 rec_ rfl fun e0 => round e0 pre z hh q3 hpre)
    _ ⟨h3, rfl, h3l, hJ0⟩
  have hargs : first ++ #[.func (.yield l) #[] #[]] ++ caps = (first.toList ++ (.func (.yield l) #[] #[] :: caps.toList)).toArray := by
    apply Array.ext'
    simp
  refine ⟨l, _, W2, { target := .fn (.func gf) caps, args := first ++ #[.func (.yield l) #[] #[]] }, W2, gf, _, W2, run_enterLoop_outer fn a.tmps #[p] x y, ?_, fun _ _ => trivial, ?_, fun hh => (by cases hh), calls_fr ((hfn.run W2 m4.see.hw).mono ?_)⟩
  · have hev : ({ a with defers := ds } : Act).eval (.const (.func (.yield l) #[] #[])) = .func (.yield l) #[] #[] := rfl
    simp only [resolve, Deferred.ofValue, hfv, List.map_toArray, List.map_cons, List.map_nil, hev]
    rfl
  · show (callFunc gf (first ++ #[.func (.yield l) #[] #[]] ++ caps)).run P W2 = _
    rw [hargs]
    exact run_callFunc hfn.body
  · rintro ev w' ⟨v, H', rfl, hq, hx⟩
    have m5 := m4.ext hx
    show ∃ jump w4, (Instr.endLoop l).run P w' = .ok jump w4 ∧ _
    rcases hq with ⟨hh, rfl, q2, q3⟩ | ⟨pre, hpre, ex, c, hh, hj, rfl, q2, q3⟩
    · have hwl := hx.hw l _ (Hp.put_same _ _ _)
      refine ⟨_, _, run_endLoop hwl (by intro e; cases e), ?_⟩
      exact ⟨h4, W2, _, β2, e, L2, hh, a, b4, d4, (fun e => by cases e), m5.drop q2 h4l, r2, rfl, hL2, done hh q3⟩
    · have hwl := hx.hw l _ (Hp.put_same _ _ _)
      refine ⟨_, _, run_endLoop hwl (by intro e; cases e), ?_⟩
      have hst := stop ex pre hh hpre q3
      cases ex with
      | exit id =>
        injection hj with hj; subst hj
        exact wpIn_exit ⟨h4, W2, _, β2, e, L2, hh, a, b4, d4, (fun e => by cases e), m5.drop q2 h4l, r2, rfl, hL2, hst⟩
      | ret =>
        injection hj with hj; subst hj
        exact wpIn_ret ⟨h4, W2, _, β2, e, L2, hh, a, b4, d4, (fun e => by cases e), m5.drop q2 h4l, r2, rfl, hL2, hst⟩
      | _ => cases hj

theorem wpIRY_sound {sf : List Nat} : ∀ (c : Code) (rd : Bool) (ro : Option Nat) (_ : rd = false → ro = none) (Q : Post) (s0 : Nat) (h1 : Hp) (w1 : World) (ds : List Deferred) (β : Nat → Nat) (e : Env) (L : List LE) (h : Hp) (a : Act) (w : World), DOk s0 h1 w1 ds →
    Mem h1 w1 β L h w → Rel n β L e a → OkL L → wpIRY P n rd (lower P sf c) Q e L h → c.wpIn (Fr ro) 0 P (liftY s0 rd ds h1 w1 n Q) { a with defers := ds } w := by
  intro c
  induction c with
  | skip => exact fun rd ro hro Q s0 h1 w1 ds β e L h a w d m r hL hp => wpIn_skip (liftY.mk0 d m r hL hp)
  | region id ops od =>
    intro rd ro hro Q s0 h1 w1 ds β e L h a w d m r hL hp
    cases od with
    | false =>
      refine wpIn_region_list ?_
      exact wpOpsY_sound (K := Q .normal) (fun β e L h a w _ m r hL hk => liftY.mk0 d m r hL hk) ops.toList β e L h a w m r hL hp
    | true =>
      simp only [lower] at hp
      split at hp
      · exact hp.elim
      · exact hp.elim
  | seq x y ihx ihy =>
    intro rd ro hro Q s0 h1 w1 ds β e L h a w d m r hL hp
    refine wpIn_seq (wpIn_mono (ihx rd ro hro _ s0 h1 w1 ds β e L h a w d m r hL hp) ?_)
    rintro ex a' w' ⟨h2, w2, ds2, β', e', L', h', a0, b2, d2, q2, m', r', rfl, hL', hq⟩
    cases ex with
    | normal => exact wpIn_mono (ihy rd ro hro Q s0 h2 w2 ds2 β' e' L' h' a0 w' d2 m' r' hL' hq) fun ex a w hh => hh.trans b2 q2 fun _ _ _ => id
    | _ => exact ⟨h2, w2, ds2, β', e', L', h', a0, b2, d2, q2, m', r', rfl, hL', hq⟩
  | cond c x y ihx ihy =>
    intro rd ro hro Q s0 h1 w1 ds β e L h a w d m r hL hp
    simp only [lower, wpIRY] at hp
    split at hp
    · rename_i b hb
      have hc := r.eval c
      rw [hb] at hc
      have hc' : ({ a with defers := ds } : Act).eval c = .bool b := by
        have he : ({ a with defers := ds } : Act).eval = a.eval := by funext x; cases x <;> rfl
        rw [he]; exact hc
      have hset : setA e (lowArg c) b = e := by
        cases c with
        | tmp t => exact upd_self hb
        | _ => rfl
      cases b with
      | true =>
        simp only [br] at hp
        rw [hset] at hp
        exact wpIn_cond_true hc' (ihx rd ro hro Q s0 h1 w1 ds β e L h a w d m r hL hp)
      | false =>
        simp only [br] at hp
        rw [hset] at hp
        exact wpIn_cond_false hc' (ihy rd ro hro Q s0 h1 w1 ds β e L h a w d m r hL hp)
    · exact hp.elim
  | block id b ih =>
    intro rd ro hro Q s0 h1 w1 ds β e L h a w d m r hL hp
    refine wpIn_block (wpIn_mono (ih rd ro hro _ s0 h1 w1 ds β e L h a w d m r hL hp) ?_)
    rintro ex a' w' ⟨h2, w2, ds2, β', e', L', h', a0, b2, d2, q2, m', r', rfl, hL', hq⟩
    cases ex with
    | exit j =>
      simp only [Exit.inBlock]
      simp only at hq
      cases hb : Nat.beq j id with
      | true =>
        rw [hb] at hq
        rw [if_pos (Nat.eq_of_beq_eq_true hb)]
        exact ⟨h2, w2, ds2, β', e', L', h', a0, b2, d2, q2, m', r', rfl, hL', hq⟩
      | false =>
        rw [hb] at hq
        rw [if_neg (fun ee => by subst ee; rw [Nat.beq_refl] at hb; cases hb)]
        exact ⟨h2, w2, ds2, β', e', L', h', a0, b2, d2, q2, m', r', rfl, hL', hq⟩
    | _ => exact ⟨h2, w2, ds2, β', e', L', h', a0, b2, d2, q2, m', r', rfl, hL', hq⟩
  | loop b ih =>
    intro rd ro hro Q s0 h1 w1 ds β e L h a w d m r hL hp
    simp only [lower, wpIRY] at hp
    have goS : ∀ (X : Type) (slots : List Nat) (vals : X → List SV) (Ls : X → List LE) (R : X → Hp → Prop) (μ : X → Nat) (x0 : X) (hok : ∀ x, ((vals x).all (okB (Ls x)) && okLB (Ls x) (Ls x)) = true),
        (∃ β e h, R x0 h ∧ Mem h1 w1 β (Ls x0) h w ∧ Rel n β (Ls x0) (updL e slots (vals x0)) a) →
        (∀ x e h, R x h → Shift (fun L h => wpIRY P n rd (lower P sf b) (fun ex e' L' h' => match ex with
        | .normal => Shift (fun L' h' => ∃ x', slots.map e' = vals x' ∧ L'.take (Ls x').length = Ls x' ∧ R x' h' ∧ μ x' < μ x) L' h'
        | ex => Q ex e' L' h') (updL e slots (vals x)) L h) (Ls x) h) → (Code.loop b).wpIn (Fr ro) 0 P (liftY s0 rd ds h1 w1 n Q) { a with defers := ds } w := by
      intro X slots vals Ls R μ x0 hok hst round
      have hok1 := fun x => (Bool.and_eq_true _ _).mp (hok x)
      obtain ⟨β, e, h, hR0, m, r⟩ := hst
      refine wpIn_loop_ghost (fun k a w => ∃ x h2 w2 ds2 β e h a0, μ x = k ∧ R x h ∧ Base h1 w1 h2 w2 ∧ DOk s0 h2 w2 ds2 ∧ (rd = true → ds2 = ds ∧ h2 = h1 ∧ w2 = w1) ∧ Mem h2 w2 β (Ls x) h w ∧ Rel n β (Ls x) (updL e slots (vals x)) a0 ∧ a = { a0 with defers := ds2 }) (μ x0) ⟨x0, h1, w1, ds, β, e, h, a, rfl, hR0, Base.refl _ _, d, fun _ => ⟨rfl, rfl, rfl⟩, m, r, rfl⟩ ?_
      rintro k a w ⟨x, h2, w2, ds2, β, e, h, a0, rfl, hR, b2, d2, q2, m, r, rfl⟩
      obtain ⟨β1, L1, h3, k1, m1, hL1, ref1, hβ1⟩ := shift_sound (round x e h hR) β m (okL_of (hok1 x).2)
      refine wpIn_mono (ih rd ro hro _ s0 h2 w2 ds2 β1 _ _ h3 a0 w d2 m1 (r.agree hβ1 ref1) hL1 k1) ?_
      rintro ex a' w' ⟨h4, w4, ds4, β', e', L', h', a1, b4, d4, q4, m', r', rfl, hL', hq⟩
      have b5 := b2.trans b4
      have q5 : rd = true → ds4 = ds ∧ h4 = h1 ∧ w4 = w1 := fun hr => ⟨(q4 hr).1.trans (q2 hr).1, (q4 hr).2.1.trans (q2 hr).2.1, (q4 hr).2.2.trans (q2 hr).2.2⟩
      cases ex with
      | normal =>
        obtain ⟨β2, L2, h6, ⟨x', y1, y2, y3, y4⟩, m2, hL2, ref2, hβ2⟩ := shift_sound hq β' m' hL'
        exact ⟨μ x', y4, x', h4, w4, ds4, β2, _, h6, a1, rfl, y3, b5, d4, q5, by rw [← y2]; exact m2.trim _, (r'.agree hβ2 ref2).forget y1 (hok1 x').1, rfl⟩
      | _ => exact ⟨h4, w4, ds4, β', e', L', h', a1, b5, d4, q5, m', r', rfl, hL', hq⟩
    have go : ∀ (X : Type) (slots : List Nat) (vals : X → List SV) (Ls : X → List LE) (R : X → Hp → Prop) (μ : X → Nat) (x0 : X) (hok : ∀ x, ((vals x).all (okB (Ls x)) && okLB (Ls x) (Ls x)) = true),
        (∃ β e h, R x0 h ∧ Mem h1 w1 β (Ls x0) h w ∧ Rel n β (Ls x0) (updL e slots (vals x0)) a) →
        (∀ x e h, R x h → wpIRY P n rd (lower P sf b) (fun ex e' L' h' => match ex with
        | .normal => ∃ x', slots.map e' = vals x' ∧ L'.take (Ls x').length = Ls x' ∧ R x' h' ∧ μ x' < μ x
        | ex => Q ex e' L' h') (updL e slots (vals x)) (Ls x) h) → (Code.loop b).wpIn (Fr ro) 0 P (liftY s0 rd ds h1 w1 n Q) { a with defers := ds } w := by
      intro X slots vals Ls R μ x0 hok hst round
      have hok1 := fun x => (Bool.and_eq_true _ _).mp (hok x)
      obtain ⟨β, e, h, hR0, m, r⟩ := hst
      refine wpIn_loop_ghost (fun k a w => ∃ x h2 w2 ds2 β e h a0, μ x = k ∧ R x h ∧ Base h1 w1 h2 w2 ∧ DOk s0 h2 w2 ds2 ∧ (rd = true → ds2 = ds ∧ h2 = h1 ∧ w2 = w1) ∧ Mem h2 w2 β (Ls x) h w ∧ Rel n β (Ls x) (updL e slots (vals x)) a0 ∧ a = { a0 with defers := ds2 }) (μ x0) ⟨x0, h1, w1, ds, β, e, h, a, rfl, hR0, Base.refl _ _, d, fun _ => ⟨rfl, rfl, rfl⟩, m, r, rfl⟩ ?_
      rintro k a w ⟨x, h2, w2, ds2, β, e, h, a0, rfl, hR, b2, d2, q2, m, r, rfl⟩
      refine wpIn_mono (ih rd ro hro _ s0 h2 w2 ds2 β _ _ h a0 w d2 m r (okL_of (hok1 x).2) (round x e h hR)) ?_
      rintro ex a' w' ⟨h4, w4, ds4, β', e', L', h', a1, b4, d4, q4, m', r', rfl, hL', hq⟩
      have b5 := b2.trans b4
      have q5 : rd = true → ds4 = ds ∧ h4 = h1 ∧ w4 = w1 := fun hr => ⟨(q4 hr).1.trans (q2 hr).1, (q4 hr).2.1.trans (q2 hr).2.1, (q4 hr).2.2.trans (q2 hr).2.2⟩
      cases ex with
      | normal =>
        obtain ⟨x', y1, y2, y3, y4⟩ := hq
        exact ⟨μ x', y4, x', h4, w4, ds4, β', _, h', a1, rfl, y3, b5, d4, q5, by rw [← y2]; exact m'.trim _, r'.forget y1 (hok1 x').1, rfl⟩
      | _ => exact ⟨h4, w4, ds4, β', e', L', h', a1, b5, d4, q5, m', r', rfl, hL', hq⟩
    rcases hp with hp | ⟨k0, hp⟩
    rotate_left
    · refine wpIn_loop_ghost (fun k a w => ∃ h2 w2 ds2 β e L h a0, Base h1 w1 h2 w2 ∧ DOk s0 h2 w2 ds2 ∧ (rd = true → ds2 = ds ∧ h2 = h1 ∧ w2 = w1) ∧ Mem h2 w2 β L h w ∧ Rel n β L e a0 ∧ a = { a0 with defers := ds2 } ∧ OkL L ∧ unr (fun Q e L h => wpIRY P n rd (lower P sf b) Q e L h) Q k e L h) k0 ⟨h1, w1, ds, β, e, L, h, a, Base.refl _ _, d, fun _ => ⟨rfl, rfl, rfl⟩, m, r, rfl, hL, hp⟩ ?_
      rintro k a w ⟨h2, w2, ds2, β, e, L, h, a0, b2, d2, q2, m, r, rfl, hL, hp⟩
      cases k with
      | zero => exact hp.elim
      | succ k =>
        refine wpIn_mono (ih rd ro hro _ s0 h2 w2 ds2 β e L h a0 w d2 m r hL hp) ?_
        rintro ex a' w' ⟨h4, w4, ds4, β', e', L', h', a1, b4, d4, q4, m', r', rfl, hL', hq⟩
        have b5 := b2.trans b4
        have q5 : rd = true → ds4 = ds ∧ h4 = h1 ∧ w4 = w1 := fun hr => ⟨(q4 hr).1.trans (q2 hr).1, (q4 hr).2.1.trans (q2 hr).2.1, (q4 hr).2.2.trans (q2 hr).2.2⟩
        cases ex with
        | normal => exact ⟨k, Nat.lt_succ_self k, h4, w4, ds4, β', e', L', h', a1, b5, d4, q5, m', r', rfl, hL', hq⟩
        | _ => exact ⟨h4, w4, ds4, β', e', L', h', a1, b5, d4, q5, m', r', rfl, hL', hq⟩
    obtain ⟨xs0, hp⟩ := EvLoop.norm hp
    obtain ⟨L, h, hp, m, hL, href0, _⟩ := pubs_sound xs0 _ _ _ m hL hp
    have r := r.agree (fun _ _ => rfl) href0
    obtain ⟨β, L, h, hp, m, hL, href1, hβ1⟩ := shift_sound hp β m hL
    have r := r.agree hβ1 href1
    cases hp with
    | mk X slots vals Ls R μ x0 hok hR0 he hLs round =>
      exact go X slots vals Ls R μ x0 hok ⟨β, _, _, hR0, by rw [← hLs]; exact m.trim _, r.forget he ((Bool.and_eq_true _ _).mp (hok x0)).1⟩ round
    | mkP perm X slots vals Ls R μ x0 hok hR0 he hd hLs round =>
      exact go X slots vals Ls R μ x0 hok ⟨_, _, _, hR0, m.perm hd hLs, r.perm he ((Bool.and_eq_true _ _).mp (hok x0)).1⟩ round
    | mkS perm X slots vals Ls R μ x0 hok hR0 he hd hLs round =>
      exact goS X slots vals Ls R μ x0 hok ⟨_, _, _, hR0, m.perm hd hLs, r.perm he ((Bool.and_eq_true _ _).mp (hok x0)).1⟩ round
  | rangeFunc f ps x y ihx ihy =>
    intro rd ro hro Q s0 h1 w1 ds β e L h a w d m r hL hp
    simp only [lower, wpIRY] at hp
    split at hp
    · rename_i p gf first caps hps hfe
      rw [hro rfl]
      have hpa : ps = #[p] := Array.ext' hps
      subst hpa
      have rd0 : ∀ (c : Code), (∀ (rd : Bool) (ro : Option Nat) (_ : rd = false → ro = none) (Q : Post) (s0 : Nat) (h1 : Hp) (w1 : World) (ds : List Deferred) (β : Nat → Nat) (e : Env) (L : List LE) (h : Hp) (a : Act) (w : World), DOk s0 h1 w1 ds →
          Mem h1 w1 β L h w → Rel n β L e a → OkL L → wpIRY P n rd (lower P sf c) Q e L h → c.wpIn (Fr ro) 0 P (liftY s0 rd ds h1 w1 n Q) { a with defers := ds } w) → RdOk P n sf c := fun c ih l Q h1 w1 β e L h a w m r hL hp =>
        ih true (some l) (fun e => by cases e) Q 0 h1 w1 [] β e L h a w ⟨Nat.zero_le _, (fun d hd => by cases hd), List.Pairwise.nil⟩ m r hL hp
      exact range_sound (rd0 x ihx) (rd0 y ihy) d m r hL hfe hp
    · exact hp.elim
  | exit id => exact fun rd ro hro Q s0 h1 w1 ds β e L h a w d m r hL hp => wpIn_exit (liftY.mk0 d m r hL hp)
  | scope b ih => intro rd ro hro Q s0 h1 w1 ds β e L h a w d m r hL hp; exact hp.elim
  | label l => exact fun rd ro hro Q s0 h1 w1 ds β e L h a w d m r hL hp => wpIn_label (liftY.mk0 d m r hL hp)
  | goto l => intro rd ro hro Q s0 h1 w1 ds β e L h a w d m r hL hp; exact hp.elim
  | ret => exact fun rd ro hro Q s0 h1 w1 ds β e L h a w d m r hL hp => wpIn_ret (liftY.mk0 d m r hL hp)
  | refuse why => intro rd ro hro Q s0 h1 w1 ds β e L h a w d m r hL hp; exact hp.elim

/-- A block made during the call, of no one's, is written over. -/
theorem Mem.shut (m : Mem h0 w0 β L h w) {D : Nat} {o : Obj} (h1 : w0.heap.size ≤ D) (hn : h D = none) (hne : ∀ i k, nth L i = some k → k.live = true → β i ≠ D) : Mem h0 w0 β L h (w.putObj D o) := by
  refine ⟨⟨fun j o' hj => ?_, fun i k hk => sees_put (m.see.see i k hk) (hne i k hk)⟩, m.hole, m.inj, fun i k hk hv => by rw [World.putObj_size]; exact m.lt i k hk hv, m.lo, m.os, m.tape, m.output, by rw [World.putObj_size]; exact m.size, fun j hj hj' => ?_, m.fresh⟩
  · rw [World.putObj_heap_other (fun e => by rw [e, hn] at hj; cases hj)]; exact m.see.hw j o' hj
  · rw [World.putObj_heap_other (by omega)]; exact m.frame j hj hj'

theorem leaves_sound {fn : Func} {tmps : Array Value} {R : Ending → World → Prop} : ∀ (ds : List Deferred) (w : World), (ds.Pairwise (· ≠ ·)) →
    (∀ d ∈ ds, ∃ D, d = { target := .collected D, args := #[] } ∧ w0.heap.size ≤ D ∧ h D = none ∧ (∀ i k, nth L i = some k → k.live = true → β i ≠ D) ∧ w.heap[D]? = some (.deferred (some []))) → Mem h0 w0 β L h w →
    (∀ w', Mem h0 w0 β L h w' → ∃ v, (results fn tmps).run P w' = .ok v w' ∧ R (.returned v) w') → LeavesInM Fence.wide 0 P fn tmps R ds .returning w
  | [], w, _, _, m, hend => hend w m
  | d :: ds, w, hd, hall, m, hend => by
    obtain ⟨D, rfl, q1, q2, q3, q4⟩ := hall d (List.mem_cons_self ..)
    have hp := List.pairwise_cons.1 hd
    refine ⟨(by intro e; cases e), .inl ⟨D, w.putObj D (.deferred none), rfl, run_takeDeferred q4, ?_⟩⟩
    refine leaves_sound ds _ hp.2 (fun d' hd' => ?_) (m.shut q1 q2 q3) hend
    obtain ⟨D', rfl, z1, z2, z3, z4⟩ := hall d' (List.mem_cons_of_mem _ hd')
    refine ⟨D', rfl, z1, z2, z3, ?_⟩
    rw [World.putObj_heap_other (fun e => hp.1 _ hd' (by rw [e]))]
    exact z4

/-- A function's triple, out of the walk through its body; it may yield, and range over functions. -/
theorem FnY.intro {sf : List Nat} {f : FuncId} {fn : Func} {c : Code} {ir : IR} {rs : List ResultVar} {args : List Value} {h : Hp} {Q : Value → Hp → Prop} (hf : P.funcs[f]? = some fn) (hb : fn.body = some c) (hname : (fn.name == "runtime.NumGoroutine") = false) (hn : fn.ntmps = n)
    (hrs : fn.results.toList = rs) (hir : lower P sf c = ir) (hargs : Nat.ble args.length n = true) (hwp : wpIRY P n false ir (wpEnd P rs Q) (env0 args) [] h) : Fn P f args.toArray h Q := by
  refine ⟨⟨fn, hf, by rw [hb]; rfl, hname⟩, fun w hw => ?_⟩
  subst hir; subst hrs; subst hn
  refine (callsIn_wide (n := 0)).1 (callsIn_of_wp_marks hf hb trivial ?_)
  have m : Mem h w (fun _ => 0) [] h w := ⟨⟨hw, (fun i l hl => by cases hl)⟩, (fun i l hl => by cases hl), (fun i j l l' hl => by cases hl), (fun i l hl => by cases hl), (fun i l hl => by cases hl), rfl, rfl, rfl, Nat.le_refl _, (fun _ _ _ => rfl), (fun j hj => .inl hj)⟩
  have hL : OkL [] := fun i cs ty hi => by cases hi
  have hs := wpIRY_sound (n := fn.ntmps) c false none (fun _ => rfl) _ w.heap.size h w [] (fun _ => 0) (env0 args) [] h _ w ⟨Nat.le_refl _, (fun d hd => by cases hd), List.Pairwise.nil⟩ m (env0_rel (Nat.le_of_ble_eq_true hargs) _) hL hwp
  refine wpIn_mono hs ?_
  rintro ex a' w' ⟨h2, w2, ds2, β, e, L, h', a0, b2, d2, _, m', r', rfl, hL', hq⟩
  have fin : wpRes P fn.results.toList [] e L h' (fun svs => pubs 40 svs (fun L h => match rawArgs L svs with
    | some vs => Shift (fun _ h => Q (oneVal vs) h) L h
    | none => False) L h') → LeavesInM Fence.wide 0 P fn a0.tmps (fun ev w' => ∃ v h', ev = .returned v ∧ Q v h' ∧ Ext h w h' w') ds2 .returning w' := by
    intro hres
    refine leaves_sound (h0 := h) (w0 := w) (β := β) (L := L) (h := h') ds2 w' d2.diff (fun d hd => ?_) (m'.base b2) fun w'' m'' => ?_
    · obtain ⟨D, q1, q2, q3, q4, q5⟩ := d2.each d hd
      refine ⟨D, q1, q2, m'.out q3 q4, fun i k hk hv he => ?_, ?_⟩
      · rcases m'.lo i k hk hv with hh | hh
        · rw [he] at hh; exact hh q4
        · omega
      · rw [m'.frame D q3 q4]; exact q5
    · obtain ⟨svs, k1, k2, k3⟩ := wpRes_sound m'' r' hL' _ _ [] hres (by simp)
      simp only [List.nil_append] at k1
      obtain ⟨L1, h1, q1, m1, hL1, ref1, _⟩ := pubs_sound svs _ _ _ m'' hL' k1
      split at q1
      · rename_i vs hvs
        have hc := rawArgs_c m1.see svs vs hvs
        obtain ⟨β2, L2, h3, z1, m2, _, _, _⟩ := shift_sound q1 β m1 hL1
        rw [hc] at k3
        exact ⟨_, results_list k3, _, h3, rfl, z1, ⟨m2.see.hw, m2.os, m2.tape, m2.output, m2.size, m2.frame, m2.fresh⟩⟩
      · exact q1.elim
  cases ex with
  | normal => exact fin hq
  | ret => exact fin hq
  | exit id => exact hq.elim
  | goto l => exact hq.elim
  | panic ch => exact hq.elim
  | outgrown => exact hq.elim
end
end Go.Sx
