/- Regions that draw their order: the walk in the order of the text, reading operations first, serves every order. Conditions: none. -/
import Derived.Test.YthibgmkobcbhhaaGreatSx11
namespace Go.Sx
abbrev Todo := List (Nat × OOp)
def memB (l : List Nat) (i : Nat) : Bool := match l with
  | [] => false
  | x :: r => Nat.beq x i || memB r i
def rdy (done : List Nat) : List Nat → Bool
  | [] => true
  | j :: r => memB done j && rdy done r
def pickV (done : List Nat) : Todo → Option (Nat × OOp × Todo)
  | [] => none
  | (i, o) :: r => bif isV o.o.k && rdy done o.after then some (i, o, r) else match pickV done r with
    | some (j, p, r') => some (j, p, (i, o) :: r')
    | none => none
def pickW (done : List Nat) : Todo → Todo → List (Nat × OOp × Todo)
  | [], _ => []
  | (i, o) :: r, pre => bif rdy done o.after then (i, o, pre ++ r) :: pickW done r (pre ++ [(i, o)]) else pickW done r (pre ++ [(i, o)])
def allP {α : Type} : List α → (α → Prop) → Prop
  | [], _ => True
  | [x], p => p x
  | x :: y :: l, p => p x ∧ allP (y :: l) p
def hideRow : LE → LE
  | .row ety size _ _ _ _ => .row ety size none 0 0 []
  | l => l
def hideAll : LE → LE
  | .row ety size _ _ _ _ => .row ety size none 0 0 []
  | _ => .gone
/-- What may be read beside an append: no row, and no block that is younger than the region. -/
def mskF : Nat → List LE → List LE
  | _, [] => []
  | 0, l :: r => hideAll l :: mskF 0 r
  | n + 1, l :: r => hideRow l :: mskF n r
def mskIf (m : Bool) (N0 : Nat) (L : List LE) : List LE := match m with
  | true => mskF N0 L
  | false => L
/-- What may be read beside a call that writes: nothing of the heap. -/
def mskH (m : Bool) (h : Hp) : Hp := match m with
  | true => fun _ => none
  | false => h
def okApp (N0 : Nat) (e : Env) : IK → Bool
  | .appendN _ _ _ _ _ x _ => (match x.get e with
    | .s i _ _ _ => Nat.ble N0 i
    | _ => true)
  | _ => true
def wpOddF (P : Program) (n N0 : Nat) : Nat → List Nat → Todo → Env → List LE → Hp → KT → Prop
  | _, _, [], e, L, h, K => K e L h
  | 0, _, _ :: _, _, _, _, _ => False
  | f + 1, done, x :: r, e, L, h, K => match pickV done (x :: r) with
    | some (i, o, r') => wpI P n o.o e (mskIf o.m N0 L) (mskH o.m h) fun e _ _ => wpOddF P n N0 f (i :: done) r' e L h K
    | none => allP (pickW done (x :: r) []) fun y => bif okApp N0 e y.2.1.o.k then wpI P n y.2.1.o e L h (fun e L h => wpOddF P n N0 f (y.1 :: done) y.2.2 e L h K) else False
def number {α : Type} : List α → Nat → List (Nat × α)
  | [], _ => []
  | x :: l, k => (k, x) :: number l (k + 1)
def wpOdd (P : Program) (n : Nat) (ops : List OOp) (e : Env) (L : List LE) (h : Hp) (K : KT) : Prop := wpOddF P n L.length ops.length [] (number ops 0) e L h K

theorem allP_mem {α : Type} {p : α → Prop} : ∀ {l : List α}, allP l p → ∀ x ∈ l, p x
  | [], _, x, hx => by cases hx
  | [y], h, x, hx => by rw [List.mem_singleton.1 hx]; exact h
  | y :: z :: l, h, x, hx => by
    rcases List.mem_cons.1 hx with rfl | hx
    · exact h.1
    · exact allP_mem h.2 x hx
theorem memB_iff {l : List Nat} {i : Nat} : memB l i = true ↔ i ∈ l := by
  induction l with
  | nil => simp [memB]
  | cons x r ih => simp only [memB, Bool.or_eq_true, ih, List.mem_cons]; constructor <;> (rintro (h | h)) <;> simp_all
theorem rdy_iff {done : List Nat} : ∀ {l : List Nat}, rdy done l = true ↔ ∀ j ∈ l, j ∈ done
  | [] => by simp [rdy]
  | x :: r => by simp only [rdy, Bool.and_eq_true, memB_iff, rdy_iff (l := r), List.mem_cons, forall_eq_or_imp]

theorem nodup_mid {l r : List Nat} {x : Nat} (h : (l ++ x :: r).Nodup) : x ∉ l ++ r ∧ (l ++ r).Nodup := by
  rw [List.nodup_append] at h
  obtain ⟨h1, h2, h3⟩ := h
  rw [List.nodup_cons] at h2
  refine ⟨fun hx => ?_, ?_⟩
  · rcases List.mem_append.1 hx with hx | hx
    · exact h3 x hx x (List.mem_cons_self ..) rfl
    · exact h2.1 hx
  · rw [List.nodup_append]
    exact ⟨h1, h2.2, fun a ha b hb => h3 a ha b (List.mem_cons_of_mem _ hb)⟩
def idx (t : Todo) : List Nat := t.map (·.1)
theorem pickV_some {done : List Nat} : ∀ {t : Todo} {i : Nat} {o : OOp} {r : Todo}, pickV done t = some (i, o, r) → (idx t).Nodup → (i, o) ∈ t ∧ isV o.o.k = true ∧ rdy done o.after = true ∧ (idx r).Nodup ∧ (∀ x, x ∈ r ↔ x ∈ t ∧ x.1 ≠ i)
  | [], i, o, r, h, _ => by cases h
  | (j, p) :: t, i, o, r, h, hn => by
    simp only [idx, List.map_cons, List.nodup_cons] at hn
    simp only [pickV] at h
    cases hb : (isV p.o.k && rdy done p.after) with
    | true =>
      rw [hb] at h
      simp only [cond_true] at h
      injection h with h
      injection h with h1 h2
      injection h2 with h2 h3
      subst h1; subst h2; subst h3
      simp only [Bool.and_eq_true] at hb
      refine ⟨List.mem_cons_self .., hb.1, hb.2, hn.2, fun x => ⟨fun hx => ⟨List.mem_cons_of_mem _ hx, fun e => hn.1 (by rw [← e]; exact List.mem_map_of_mem hx)⟩, fun ⟨hx, hne⟩ => ?_⟩⟩
      rcases List.mem_cons.1 hx with rfl | hx
      · exact absurd rfl hne
      · exact hx
    | false =>
      rw [hb] at h
      simp only [cond_false] at h
      split at h
      · rename_i j' p' r' hr
        injection h with h
        injection h with h1 h2
        injection h2 with h2 h3
        subst h1; subst h2; subst h3
        obtain ⟨q1, q2, q3, q4, q5⟩ := pickV_some hr hn.2
        have hne : j ≠ j' := fun e => hn.1 (by rw [e]; exact List.mem_map_of_mem q1)
        refine ⟨List.mem_cons_of_mem _ q1, q2, q3, ?_, fun x => ?_⟩
        · simp only [idx, List.map_cons, List.nodup_cons]
          refine ⟨fun hm => ?_, q4⟩
          obtain ⟨y, hy, hyj⟩ := List.mem_map.1 hm
          exact hn.1 (by rw [← hyj]; exact List.mem_map_of_mem ((q5 y).1 hy).1)
        · rw [List.mem_cons, List.mem_cons, q5 x]
          constructor
          · rintro (rfl | hx)
            · exact ⟨.inl rfl, hne⟩
            · exact ⟨.inr hx.1, hx.2⟩
          · rintro ⟨rfl | hx, hx2⟩
            · exact .inl rfl
            · exact .inr ⟨hx, hx2⟩
      · cases h
theorem pickV_none {done : List Nat} : ∀ {t : Todo}, pickV done t = none → ∀ x ∈ t, isV x.2.o.k = true → rdy done x.2.after = true → False
  | [], _, x, hx, _, _ => by cases hx
  | (j, p) :: t, h, x, hx, h1, h2 => by
    simp only [pickV] at h
    cases hb : (isV p.o.k && rdy done p.after) with
    | true => rw [hb] at h; cases h
    | false =>
      rw [hb] at h
      simp only [cond_false] at h
      split at h
      · cases h
      · rename_i hr
        rcases List.mem_cons.1 hx with rfl | hx
        · simp only at h1 h2; rw [h1, h2] at hb; cases hb
        · exact pickV_none hr x hx h1 h2
theorem pickW_mem {done : List Nat} : ∀ {t pre : Todo}, (idx (pre ++ t)).Nodup → ∀ i o, (i, o) ∈ t → rdy done o.after = true → ∃ r, (i, o, r) ∈ pickW done t pre ∧ (idx r).Nodup ∧ ∀ x, x ∈ r ↔ x ∈ pre ++ t ∧ x.1 ≠ i
  | [], pre, _, i, o, hx, _ => by cases hx
  | (j, p) :: t, pre, hn, i, o, hx, hr => by
    by_cases hji : (i, o) = (j, p)
    · injection hji with h1 h2
      subst h1; subst h2
      refine ⟨pre ++ t, by simp only [pickW, hr, cond_true]; exact List.mem_cons_self .., ?_, fun x => ?_⟩
      · simp only [idx, List.map_append, List.map_cons] at hn ⊢
        exact (nodup_mid hn).2
      · have hnot : ∀ y ∈ pre ++ t, y.1 ≠ i := fun y hy e => by
          simp only [idx, List.map_append, List.map_cons] at hn
          have := (nodup_mid hn).1
          exact this (by rw [← e, ← List.map_append]; exact List.mem_map_of_mem hy)
        constructor
        · intro h
          exact ⟨by rcases List.mem_append.1 h with h | h <;> simp [h], hnot x h⟩
        · rintro ⟨h, hne⟩
          rcases List.mem_append.1 h with h | h
          · exact List.mem_append_left _ h
          · rcases List.mem_cons.1 h with rfl | h
            · exact absurd rfl hne
            · exact List.mem_append_right _ h
    · have hx' : (i, o) ∈ t := by
        rcases List.mem_cons.1 hx with e | e
        · exact absurd e hji
        · exact e
      have hn' : (idx ((pre ++ [(j, p)]) ++ t)).Nodup := by simpa using hn
      obtain ⟨r, h1, h2, h3⟩ := pickW_mem hn' i o hx' hr
      refine ⟨r, ?_, h2, fun x => by rw [h3 x]; simp⟩
      simp only [pickW]
      cases rdy done p.after with
      | true => exact List.mem_cons_of_mem _ h1
      | false => exact h1

/-! ### what the check of a region says -/
def Closed (ops : Array Oper) (S : Nat → Prop) : Prop := ∀ j oj, ops[j]? = some oj → S j → ∀ x ∈ oj.after, Region.binds .any x = true → S x.on
def Pre (ops : Array Oper) (i j : Nat) : Prop := ∀ S : Nat → Prop, Closed ops S → S j → S i

theorem mask_fold (acc : Array Nat) (i : Nat) : ∀ (l : List Edge) (s : Nat), (l.foldl (fun s e => if Region.binds .any e then s ||| 2 ^ e.on ||| acc.getD e.on 0 else s) s).testBit i = true →
    s.testBit i = true ∨ ∃ e ∈ l, Region.binds .any e = true ∧ (i = e.on ∨ (acc.getD e.on 0).testBit i = true)
  | [], s, h => .inl h
  | e :: l, s, h => by
    simp only [List.foldl_cons] at h
    rcases mask_fold acc i l _ h with h1 | ⟨e', h1, h2⟩
    · split at h1
      · rename_i hb
        simp only [Nat.testBit_or, Bool.or_eq_true] at h1
        rcases h1 with (h1 | h1) | h1
        · exact .inl h1
        · rw [Nat.testBit_two_pow] at h1
          exact .inr ⟨e, List.mem_cons_self .., hb, .inl (of_decide_eq_true h1).symm⟩
        · exact .inr ⟨e, List.mem_cons_self .., hb, .inr h1⟩
      · exact .inl h1
    · exact .inr ⟨e', List.mem_cons_of_mem _ h1, h2⟩
theorem before_list (ops : Array Oper) : ∀ (l : List Oper) (acc : Array Nat), (∀ j, l[j]? = ops[acc.size + j]?) → (∀ j i, (acc.getD j 0).testBit i = true → Pre ops i j) →
    ∀ j i, ((l.foldl (fun (acc : Array Nat) (o : Oper) => acc.push (o.after.foldl (fun s e => if Region.binds .any e then s ||| 2 ^ e.on ||| acc.getD e.on 0 else s) 0)) acc).getD j 0).testBit i = true → Pre ops i j
  | [], acc, _, h => h
  | o :: l, acc, hl, h => by
    simp only [List.foldl_cons]
    refine before_list ops l _ (fun j => ?_) (fun j i hb => ?_)
    · have := hl (j + 1)
      simp only [List.getElem?_cons_succ] at this
      rw [this, Array.size_push]; congr 1; omega
    · by_cases hj : j < acc.size
      · refine h j i ?_
        rw [Array.getD_eq_getD_getElem?, Array.getElem?_push, if_neg (by omega)] at hb
        rw [Array.getD_eq_getD_getElem?]; exact hb
      · by_cases hj2 : j = acc.size
        · subst hj2
          rw [Array.getD_eq_getD_getElem?, Array.getElem?_push, if_pos rfl, Option.getD_some, ← Array.foldl_toList] at hb
          have ho : ops[acc.size]? = some o := by have := hl 0; simpa using this.symm
          rcases mask_fold acc i _ _ hb with h1 | ⟨e, he, hbe, h1⟩
          · simp at h1
          · intro S hS hSj
            have hon := hS _ _ ho hSj e (by simpa using he) hbe
            rcases h1 with rfl | h1
            · exact hon
            · exact h _ _ h1 S hS hon
        · rw [Array.getD_eq_getD_getElem?, Array.getElem?_push, if_neg hj2, Array.getElem?_eq_none (by omega)] at hb
          simp at hb
theorem before_spec (ops : Array Oper) {i j : Nat} (h : ((Region.before ops).getD j 0).testBit i = true) : Pre ops i j := by
  unfold Region.before at h
  rw [← Array.foldl_toList] at h
  exact before_list ops ops.toList #[] (fun j => by simp) (fun j i hb => by simp at hb) j i h

structure OddOk (P : Program) (ops : Array Oper) : Prop where
  nosel : ∀ (j : Nat) (o : Oper) cs b, ops[j]? = some o → o.op ≠ .select cs b
  lt : ∀ (i : Nat) (o : Oper), ops[i]? = some o → ∀ x ∈ o.after, Region.binds .any x = true → x.on < i
  dst : ∀ (i : Nat) (o : Oper), ops[i]? = some o → isV (lowKind P o.op) = true → ∃ d, o.dst = some d ∧ d ∉ o.looksAt ops
  A : ∀ (i x : Nat) (oi ox : Oper), i ≠ x → ops[i]? = some oi → ops[x]? = some ox → ∀ d, ox.dst = some d → d ∈ oi.looksAt ops → Pre ops x i ∨ (isV (lowKind P ox.op) = false ∧ Pre ops i x)
  B : ∀ (i x : Nat) (oi ox : Oper), i ≠ x → ops[i]? = some oi → ops[x]? = some ox → ∀ d, ox.dst = some d → oi.dst = some d → (isV (lowKind P ox.op) = false ∧ Pre ops i x) ∨ (isV (lowKind P oi.op) = false ∧ Pre ops x i)
  C : ∀ (i x : Nat) (oi ox : Oper), i ≠ x → ops[i]? = some oi → ops[x]? = some ox → isMem (lowKind P oi.op) = true → isV (lowKind P ox.op) = true ∨ isNew (lowKind P ox.op) = true ∨ isApp (lowKind P ox.op) = true ∨ isCall (lowKind P ox.op) = true ∨ Pre ops i x ∨ Pre ops x i
theorem oddOk_spec {P : Program} {ops : Array Oper} (h : oddOk P ops = true) : OddOk P ops := by
  simp only [oddOk, Bool.and_eq_true, List.all_eq_true, List.mem_range] at h
  obtain ⟨h1, h2⟩ := h
  have hlt : ∀ {i : Nat} {o : Oper}, ops[i]? = some o → i < ops.size := fun h => (Array.getElem?_eq_some_iff.1 h).1
  have hpair : ∀ i x oi ox, i ≠ x → ops[i]? = some oi → ops[x]? = some ox → pairOk P ops (Region.before ops) i x = true := by
    intro i x oi ox hne hi hx
    have := (h2 i (hlt hi)).2 x (hlt hx)
    simp only [Bool.or_eq_true, beq_iff_eq] at this
    exact this.resolve_left hne
  refine ⟨Region.noSelect_spec h1, fun i o hi x hx hb => ?_, fun i o hi hv => ?_, fun i x oi ox hne hi hx d hd hm => ?_, fun i x oi ox hne hi hx d hd hd2 => ?_, fun i x oi ox hne hi hx hm => ?_⟩
  · have := (h2 i (hlt hi)).1
    rw [hi] at this
    simp only [Bool.and_eq_true, List.all_eq_true, Bool.or_eq_true, Bool.not_eq_true', decide_eq_true_eq] at this
    rcases this.1 x (by simpa using hx) with h3 | h3
    · rw [hb] at h3; cases h3
    · exact h3
  · have := (h2 i (hlt hi)).1
    rw [hi] at this
    simp only [Bool.and_eq_true, Bool.or_eq_true, Bool.not_eq_true'] at this
    rcases this.2 with h3 | h3
    · rw [hv] at h3; cases h3
    · split at h3
      · rename_i d hd
        exact ⟨d, hd, by simpa [List.contains_eq_mem] using h3⟩
      · cases h3
  · have := hpair i x oi ox hne hi hx
    simp only [pairOk, hi, hx, hd, Bool.and_eq_true, Bool.or_eq_true, Bool.not_eq_true', List.contains_eq_mem, decide_eq_false_iff_not] at this
    rcases this.1.1 with (h3 | h3) | h3
    · exact absurd hm h3
    · exact .inl (before_spec ops h3)
    · exact .inr ⟨h3.1, before_spec ops h3.2⟩
  · have := hpair i x oi ox hne hi hx
    simp only [pairOk, hi, hx, hd, hd2, Bool.and_eq_true, Bool.or_eq_true, Bool.not_eq_true', bne_self_eq_false, Bool.false_eq_true, false_or] at this
    rcases this.1.2 with h3 | h3
    · exact .inl ⟨h3.1, before_spec ops h3.2⟩
    · exact .inr ⟨h3.1, before_spec ops h3.2⟩
  · have := hpair i x oi ox hne hi hx
    simp only [pairOk, hi, hx, hm, Bool.and_eq_true, Bool.or_eq_true, Bool.not_true, Bool.false_eq_true, false_or] at this
    rcases this.2 with ((((h3 | h3) | h3) | h3) | h3) | h3
    · exact .inl h3
    · exact .inr (.inl h3)
    · exact .inr (.inr (.inl h3))
    · exact .inr (.inr (.inr (.inl h3)))
    · exact .inr (.inr (.inr (.inr (.inl (before_spec ops h3)))))
    · exact .inr (.inr (.inr (.inr (.inr (before_spec ops h3)))))

/-! ### puts that are still to come -/
def dstOf (ops : Array Oper) (i : Nat) : Option Nat := (ops[i]?).bind (·.dst)
def puts (ops : Array Oper) : List (Nat × Value) → Act → Act
  | [], a => a
  | (i, v) :: E, a => (puts ops E a).put (dstOf ops i) v
theorem puts_put {ops : Array Oper} (d : Option Nat) (v : Value) (a : Act) : ∀ (E : List (Nat × Value)), (∀ x ∈ E, ∀ t, d = some t → dstOf ops x.1 ≠ some t) → puts ops E (a.put d v) = (puts ops E a).put d v
  | [], _ => rfl
  | (i, u) :: E, h => by
    simp only [puts]
    rw [puts_put d v a E fun x hx => h x (List.mem_cons_of_mem _ hx)]
    exact Act.put_comm _ _ _ (fun t ht => h (i, u) (List.mem_cons_self ..) t ht)
theorem puts_mid {ops : Array Oper} (i : Nat) (v : Value) (a : Act) (E2 : List (Nat × Value)) (h : ∀ x ∈ E2, ∀ t, dstOf ops i = some t → dstOf ops x.1 ≠ some t) :
    ∀ (E1 : List (Nat × Value)), puts ops (E1 ++ (i, v) :: E2) a = puts ops (E1 ++ E2) (a.put (dstOf ops i) v)
  | [] => (puts_put _ v a E2 h).symm
  | (j, u) :: E1 => by simp only [List.cons_append, puts, puts_mid i v a E2 h E1]
theorem puts_exec {ops : Array Oper} {o : Oper} (hs : ∀ cs b, o.op ≠ .select cs b) (a : Act) : ∀ (E : List (Nat × Value)), (∀ x ∈ E, ∀ t, dstOf ops x.1 = some t → t ∉ o.looksAt ops) →
    execOp (puts ops E a).eval o = execOp a.eval o ∧ Region.wanted o (yielded ops (puts ops E a).tmps) = Region.wanted o (yielded ops a.tmps)
  | [], _ => ⟨rfl, rfl⟩
  | (i, u) :: E, h => by
    obtain ⟨h1, h2⟩ := puts_exec hs a E fun x hx => h x (List.mem_cons_of_mem _ hx)
    simp only [puts]
    rw [execOp_put (ops := ops) o hs _ _ _ (h (i, u) (List.mem_cons_self ..)), wanted_put (ops := ops) o _ _ _ (h (i, u) (List.mem_cons_self ..))]
    exact ⟨h1, h2⟩
theorem puts_defers {ops : Array Oper} (d : List Deferred) : ∀ (E : List (Nat × Value)) (a : Act), puts ops E { a with defers := d } = { puts ops E a with defers := d } 
  | [], _ => rfl
  | (i, u) :: E, a => by
    simp only [puts, puts_defers d E a]
    cases dstOf ops i <;> rfl
theorem puts_def {ops : Array Oper} : ∀ (E : List (Nat × Value)) (a : Act), (puts ops E a).defers = a.defers
  | [], _ => rfl
  | (i, u) :: E, a => by
    simp only [puts]
    rw [← puts_def E a]
    cases dstOf ops i <;> rfl

/-- From the walk's frame to the frame as it is. -/
theorem wp_puts {P : Program} {ops : Array Oper} {o : Oper} {a : Act} {w : World} {E : List (Nat × Value)} {next next' : Act → World → Prop} {Q : Exit → Act → World → Prop} (he : execOp (puts ops E a).eval o = execOp a.eval o)
    (hd : ∀ x ∈ E, ∀ t, o.dst = some t → dstOf ops x.1 ≠ some t) (hn : ∀ (v : Value) (a1 : Act) (w1 : World), a1.tmps = a.tmps → next' (puts ops E (a1.put o.dst v)) w1 → next (a1.put o.dst v) w1) (h : o.wp P (puts ops E a) w next' (fun _ _ _ => False)) : o.wp P a w next Q := by
  unfold Oper.wp at h ⊢
  rw [he] at h
  have key : ∀ v (a1 : Act) w1, a1.tmps = a.tmps → next' ((puts ops E a1).put o.dst v) w1 → next (a1.put o.dst v) w1 := fun v a1 w1 ht hh => hn v a1 w1 ht (by rw [puts_put _ v a1 E hd]; exact hh)
  generalize (execOp a.eval o).run P w = r at h ⊢
  cases r with
  | ok x w' =>
    cases x <;> simp only [Oper.upon] at h ⊢
    case value v => exact key v a w' rfl h
    case skip => exact key undef a w' rfl h
    case defer d =>
      have := key undef { a with defers := d :: a.defers } w' rfl
      rw [puts_defers] at this
      refine this ?_
      rw [puts_def] at h
      exact h
    case enter f args =>
      refine h.mono fun e w'' hh => ?_
      cases e with
      | returned v => exact key v a w'' rfl hh
      | panicked c => exact hh.elim
      | outgrown => obtain ⟨_, _, hh⟩ := hh; exact hh.elim
    case row row args => exact h.mono fun v w'' hh => key v a w'' rfl hh
  | halt x w' =>
    cases x <;> simp only [Oper.upon] at h

/-! ### one reading operation, in the walk's own state -/
section
variable {P : Program} {h0 : Hp} {w0 : World} {n : Nat} {β : Nat → Nat} {L : List LE} {h : Hp} {e : Env} {a : Act} {w : World}

def Now (P : Program) (ops : Array Oper) (o : Oper) (ac : Act) (v : Value) (w : World) : Prop :=
  (Region.wanted o (yielded ops ac.tmps) = true ∧ (execOp ac.eval o).run P w = .ok (.value v) w) ∨ (Region.wanted o (yielded ops ac.tmps) = false ∧ v = undef)

theorem wpV_nomem {k : IK} (hk : isV k = true) (hm : isMem k = false) (L' : List LE) (h' : Hp) (V : SV → Prop) : wpV k e L h V = wpV k e L' h' V := by
  cases k with
  | load agg m x => exact absurd hm (by simp [isMem])
  | lookup kk z x k ok => exact absurd hm (by simp [isMem])
  | lenM x => exact absurd hm (by simp [isMem])
  | eqv neg ek x y => rcases ek with _ | _ | _ | _ | _ | ek <;> rfl
  | unop op x => cases op <;> rfl
  | conv s d x => rcases s with _ | _ | s <;> rcases d with _ | d <;> rfl
  | bitop op ty x y => cases op <;> rcases ty with _ | ty <;> rfl
  | _ => first | rfl | exact absurd hk (by simp [isV])
theorem nth_msk : ∀ (N : Nat) (L : List LE) (i : Nat), nth (mskF N L) i = (nth L i).map fun l => if i < N then hideRow l else hideAll l
  | _, [], i => by simp [mskF, nth]
  | 0, l :: r, 0 => by simp [mskF, nth]
  | 0, l :: r, i + 1 => by simp only [mskF, nth, nth_msk 0 r i, Nat.not_lt_zero, if_false]
  | N + 1, l :: r, 0 => by simp [mskF, nth]
  | N + 1, l :: r, i + 1 => by simp only [mskF, nth, nth_msk N r i, Nat.add_lt_add_iff_right]
theorem hide_row (l : LE) (b : Bool) : (if b = true then hideRow l else hideAll l).isRow = l.isRow := by cases b <;> cases l <;> rfl
theorem ref_msk {N : Nat} {L : List LE} {i : Nat} : refOk (mskF N L) i ↔ refOk L i := by
  unfold refOk
  simp only [nth_msk, Option.map_eq_some_iff]
  constructor
  · rintro ⟨l, ⟨k, hk, rfl⟩, hr⟩
    refine ⟨k, hk, ?_⟩
    rw [← hr]
    by_cases hi : i < N
    · rw [if_pos hi]; cases k <;> rfl
    · rw [if_neg hi]; cases k <;> rfl
  · rintro ⟨k, hk, hr⟩
    refine ⟨_, ⟨k, hk, rfl⟩, ?_⟩
    rw [← hr]
    by_cases hi : i < N
    · rw [if_pos hi]; cases k <;> rfl
    · rw [if_neg hi]; cases k <;> rfl
theorem ok1_msk {N : Nat} {L : List LE} {x : SV} : x.ok1 (mskF N L) ↔ x.ok1 L := by cases x <;> simp only [SV.ok1, ref_msk]
theorem ok_msk {N : Nat} {L : List LE} {x : SV} : x.ok (mskF N L) ↔ x.ok L := by
  cases x with
  | a xs => simp only [SV.ok, ok1_msk]
  | _ => simp only [SV.ok, ok1_msk]
theorem nilRow_own (w : World) (ety size : Nat) : w.ownsRow 0 ety size (.slice none 0 0) 0 [] := ⟨by simp, .inl ⟨rfl, rfl⟩⟩
/-- The entries that a mask leaves. -/
theorem see_msk_iff {N : Nat} {L : List LE} {h : Hp} {w : World} {β : Nat → Nat} : See β (mskF N L) h w ↔ HW h w ∧ ∀ i l, i < N → nth L i = some l → l.isRow = false → l.sees β i w := by
  constructor
  · intro s
    refine ⟨s.hw, fun i l hi hl hr => ?_⟩
    have := s.see i (hideRow l) (by rw [nth_msk, hl, Option.map_some, if_pos hi])
    cases l <;> first | exact this | cases hr
  · rintro ⟨h1, h2⟩
    refine ⟨h1, fun i k hk => ?_⟩
    rw [nth_msk, Option.map_eq_some_iff] at hk
    obtain ⟨l, hl, rfl⟩ := hk
    by_cases hi : i < N
    · rw [if_pos hi]
      cases hr : l.isRow with
      | false =>
        have := h2 i l hi hl hr
        cases l <;> first | exact this | cases hr
      | true =>
        cases l with
        | row ety size A n cap xs => exact ⟨nilRow_own w _ _, fun g e => by cases e⟩
        | _ => cases hr
    · rw [if_neg hi]
      cases l <;> first | trivial | exact ⟨nilRow_own w _ _, fun g e => by cases e⟩
theorem see_msk {N : Nat} (s : See β L h w) : See β (mskF N L) h w := see_msk_iff.2 ⟨s.hw, fun i l _ hl _ => s.see i l hl⟩
theorem see_mk {m : Bool} {N : Nat} (s : See β L h w) : See β (mskIf m N L) (mskH m h) w := by
  cases m
  · exact s
  · exact see_msk_iff.2 ⟨fun j o ho => (by cases ho), fun i l _ hl _ => s.see i l hl⟩
theorem okL_msk {N : Nat} (hL : OkL L) : OkL (mskF N L) := by
  intro i cs ty hi x hx
  rw [nth_msk, Option.map_eq_some_iff] at hi
  obtain ⟨l, hl, hh⟩ := hi
  have : l = .own cs ty := by
    by_cases hi : i < N
    · rw [if_pos hi] at hh; cases l <;> first | exact hh | cases hh
    · rw [if_neg hi] at hh; cases l <;> cases hh
  subst this
  exact ok1_msk.2 (hL i cs ty hl x hx)
theorem okL_mk {m : Bool} {N : Nat} (hL : OkL L) : OkL (mskIf m N L) := by
  cases m
  · exact hL
  · exact okL_msk hL
theorem ok_mk {m : Bool} {N : Nat} {x : SV} : x.ok (mskIf m N L) ↔ x.ok L := by
  cases m
  · rfl
  · exact ok_msk
theorem rel_mk {m : Bool} {N : Nat} (r : Rel n β L e a) : Rel n β (mskIf m N L) e a := ⟨r.defers, r.size, r.env, fun t => ok_mk.2 (r.ok t)⟩

theorem execV_class (s : See β L h w) (r : Rel n β L e a) (hL : OkL L) {o : Oper} (hk : isV (lowKind P o.op) = true) {V : SV → Prop} (hp : wpV (lowKind P o.op) e L h V) :
    ∃ sv, V sv ∧ sv.ok L ∧ ∀ w', (isMem (lowKind P o.op) = true → See β L h w') → (execOp a.eval o).run P w' = .ok (.value (sv.c β)) w' := by
  obtain ⟨sv, h1, h2, h3⟩ := execV_all r hL hk hp
  refine ⟨sv, h1, h2, fun w' hw' => ?_⟩
  cases hm : isMem (lowKind P o.op) with
  | true => exact h3 w' (hw' hm)
  | false =>
    have hp' : wpV (lowKind P o.op) e (mskF 0 L) (fun _ => none) V := by rw [wpV_nomem hk hm _ _ V] at hp; exact hp
    obtain ⟨sv1, _, _, g3⟩ := execV_all (L := mskF 0 L) (h := fun _ => none) (r.agree (fun _ _ => rfl) fun i hi => ref_msk.2 hi) (okL_msk hL) hk hp'
    have hg : ∀ w, See β (mskF 0 L) (fun _ => none) w := fun w => see_msk_iff.2 ⟨fun j o ho => (by cases ho), fun i l hi => (by omega)⟩
    have e1 := h3 w s
    have e2 := g3 w (hg w)
    rw [e1] at e2
    injection e2 with e2
    injection e2 with e2
    rw [e2]
    exact g3 w' (hg w')

theorem wpI_V {ops : Array Oper} {o : Oper} {K : KT} (s : See β L h w) (r : Rel n β L e a) (hL : OkL L) (hk : isV (lowOp P ops o).k = true) {d : Nat} (hd : o.dst = some d) (hp : wpI P n (lowOp P ops o) e L h K) :
    isV (lowKind P o.op) = true ∧ ∃ sv, K (upd e d sv) L h ∧ sv.ok L ∧ d < n ∧ ∀ w', (isMem (lowKind P o.op) = true → See β L h w') → Now P ops o a (sv.c β) w' := by
  have hput : ∀ {sv : SV} {e : Env}, putS n (some d) sv e L h K → d < n ∧ K (upd e d sv) L h := by
    intro sv e hh
    simp only [putS] at hh
    cases hb : Nat.blt d n with
    | false => rw [hb] at hh; exact hh.elim
    | true => rw [hb] at hh; exact ⟨Nat.lt_of_succ_le (Nat.le_of_ble_eq_true hb), hh⟩
  unfold lowOp at hp hk
  split at hp
  · rename_i g hg
    rw [hg] at hk
    simp only at hk
    refine ⟨hk, ?_⟩
    have run : ∀ e', e' = e → wpK P n (lowKind P o.op) o.dst e' L h K → Region.wanted o (yielded ops a.tmps) = true → ∃ sv, K (upd e d sv) L h ∧ sv.ok L ∧ d < n ∧ ∀ w', (isMem (lowKind P o.op) = true → See β L h w') → Now P ops o a (sv.c β) w' := by
      rintro e' rfl hw hwant
      rw [isV_kind _ hk, hd] at hw
      obtain ⟨sv, q1, q2, q3⟩ := execV_class s r hL hk hw
      obtain ⟨z1, z2⟩ := hput q1
      exact ⟨sv, z2, q2, z1, fun w' hw' => .inl ⟨hwant, q3 w' hw'⟩⟩
    have skip : ∀ e', e' = e → putS n o.dst (.v undef) e' L h K → Region.wanted o (yielded ops a.tmps) = false → ∃ sv, K (upd e d sv) L h ∧ sv.ok L ∧ d < n ∧ ∀ w', (isMem (lowKind P o.op) = true → See β L h w') → Now P ops o a (sv.c β) w' := by
      rintro e' rfl hw hwant
      rw [hd] at hw
      obtain ⟨z1, z2⟩ := hput hw
      exact ⟨.v undef, z2, trivial, z1, fun w' _ => .inr ⟨hwant, rfl⟩⟩
    cases hgd : o.guard with
    | none =>
      rw [hgd] at hg
      injection hg with hg
      subst hg
      exact run e rfl hp (by simp [Region.wanted, hgd])
    | some jw =>
      obtain ⟨j, want⟩ := jw
      rw [hgd] at hg
      simp only [lowGuard] at hg
      split at hg
      · rename_i oj hj
        split at hg
        · rename_i t ht
          injection hg with hg
          subst hg
          obtain ⟨y1, y2⟩ := yielded_of r hj ht
          simp only [wpI] at hp
          split at hp
          · rename_i b hb
            have hy := y1 b hb
            cases want <;> cases b <;> simp only [br] at hp
            · exact run _ (upd_self hb) hp (by simp [Region.wanted, hgd, hy])
            · exact skip _ (upd_self hb) hp (by simp [Region.wanted, hgd, hy])
            · exact skip _ (upd_self hb) hp (by simp [Region.wanted, hgd, hy])
            · exact run _ (upd_self hb) hp (by simp [Region.wanted, hgd, hy])
          · rename_i vs hb
            have hy := y2 vs hb
            exact skip e rfl hp (by simp [Region.wanted, hgd, hy])
          · exact hp.elim
        · cases hg
      · cases hg
  · rename_i hg
    rw [hg] at hk
    cases hk

/-- An operation that only makes a block: the walk's state after it. -/
theorem wpI_new {ops : Array Oper} {o : Oper} {K : KT} (hk : isNew (lowKind P o.op) = true) (hp : wpI P n (lowOp P ops o) e L h K) :
    wpI P n (lowOp P ops o) e L h fun e' L' h' => K e' L' h' ∧ (L' = L ∨ ∃ l, L' = L ++ [l]) ∧ h' = h := by
  have hput : ∀ {d : Option Nat} {sv : SV} {e : Env} {L' : List LE}, (L' = L ∨ ∃ l, L' = L ++ [l]) → putS n d sv e L' h K → putS n d sv e L' h fun e' L' h' => K e' L' h' ∧ (L' = L ∨ ∃ l, L' = L ++ [l]) ∧ h' = h := by
    intro d sv e L' hl hh
    cases d with
    | none => exact ⟨hh, hl, rfl⟩
    | some d =>
      unfold putS at hh ⊢
      simp only at hh ⊢
      cases hb : Nat.blt d n with
      | false => rw [hb] at hh; exact hh.elim
      | true => rw [hb] at hh; exact ⟨hh, hl, by first | rfl | trivial⟩
  have hop : ∀ (d : Option Nat) (e : Env), wpK P n (lowKind P o.op) d e L h K → wpK P n (lowKind P o.op) d e L h fun e' L' h' => K e' L' h' ∧ (L' = L ∨ ∃ l, L' = L ++ [l]) ∧ h' = h := by
    intro d e hh
    generalize lowKind P o.op = k at hk hh ⊢
    cases k <;> simp only [isNew] at hk <;> first | (cases hk; done) | skip
    · simp only [wpK, force_eq] at hh ⊢
      exact hput (.inl rfl) hh
    · simp only [wpK, forceN_eq, forceL_eq] at hh ⊢
      exact hput (.inr ⟨_, rfl⟩) hh
    · simp only [wpK, forceN_eq, forceL_eq] at hh ⊢
      split at hh
      · rename_i cs hcs; exact hput (.inr ⟨_, rfl⟩) hh
      · exact hh.elim
    · simp only [wpK, forceN_eq, forceL_eq] at hh ⊢
      rename_i ty len size zero parts
      cases hb : Nat.ble (len * size) 16777216 with
      | false => rw [hb] at hh; exact hh.elim
      | true =>
        rw [hb] at hh
        simp only [cond_true] at hh ⊢
        split at hh
        · exact hput (.inr ⟨_, rfl⟩) hh
        · exact hh.elim
    · simp only [wpK] at hh ⊢
      split at hh
      · cases hh with
        | mk m hl hc hb hm kk => exact .mk m hl hc hb hm fun g => hput (.inr ⟨_, rfl⟩) (kk g)
        | one m z hz hs hl hc hb hm kk => exact .one m z hz hs hl hc hb hm fun g => hput (.inr ⟨_, rfl⟩) (kk g)
        | room c hl hc hb hm kk => exact .room c hl hc hb hm fun g => hput (.inr ⟨_, rfl⟩) (kk g)
      · exact hh.elim
  unfold lowOp at hp ⊢
  split at hp
  · rename_i g hg
    simp only [wpI] at hp ⊢
    split at hp
    · exact hop _ _ hp
    · rename_i t want
      split at hp
      · rename_i b hb
        cases want <;> cases b <;> simp only [br] at hp ⊢ <;> first | exact hop _ _ hp | exact hput (.inl rfl) hp
      · exact hput (.inl rfl) hp
      · exact hp.elim
  · exact hp.elim

/-! ### the walk beside the run -/
theorem calm_V {k : IK} (hk : isV k = true) : calm k = k := by cases k <;> first | rfl | (simp only [isV] at hk; cases hk)
theorem calm_isV (k : IK) : isV (calm k) = isV k := by cases k <;> rfl
theorem free_isV (k : IK) : isV (freeK k) = isV k := by cases k <;> rfl
theorem free_V {k : IK} (hk : isV k = true) : freeK k = k := by cases k <;> first | rfl | (simp only [isV] at hk; cases hk)
theorem calm_new {k : IK} (hk : isNew k = true) : calm k = k := by cases k <;> first | rfl | (simp only [isNew] at hk; cases hk)

theorem app_appK {ety size bytes n cap m : Nat} {A : Option Addr} {S : List Value → Prop} {K : SV → List LE → Prop} (hp : EvAppend ety size bytes A n cap m S L K) : EvAppendK ety size bytes A n cap m S L K := by
  cases hp with
  | old i xs vs hi hs h1 hm hb k => exact .old i xs vs hi hs h1 hm hb k
  | fresh vs hA hn hcp hs h1 hm hb k => exact .fresh vs hA hn hcp hs h1 hm hb k
  | keep i g xs vs hA hi hs h1 h0 hm hb k1 k2 => exact .keep i g xs vs hA hi hs h1 h0 hm hb k1 k2
theorem rawArgs_need : ∀ (svs : List SV) (vs : List Value), rawArgs L svs = some vs → needArgs L svs = none := by
  have h1 : ∀ (x : SV) v, raw1 L x = some v → need1 L x = none := by
    intro x v hx
    cases x <;> simp only [raw1, need1] at hx ⊢
    case p i off => split at hx <;> first | (rename_i hb; rw [hb]) | cases hx
    case s i off l c => split at hx <;> first | (rename_i hb; rw [hb]) | cases hx
    case m i => split at hx <;> first | (rename_i hb; rw [hb]) | cases hx
  have h2 : ∀ (xs : List SV) vs, raws L xs = some vs → needs L xs = none := by
    intro xs
    induction xs with
    | nil => intro _ _; rfl
    | cons x xs ih =>
      intro vs hx
      simp only [raws] at hx
      split at hx
      · rename_i v r hv hr
        simp only [needs, h1 x v hv, ih r hr]
      · cases hx
  intro svs
  induction svs with
  | nil => intro _ _; rfl
  | cons x xs ih =>
    intro vs hx
    simp only [rawArgs] at hx
    split at hx
    · rename_i v r hv hr
      have : need L x = none := by
        cases x with
        | a ys =>
          simp only [raw] at hv
          split at hv
          · rename_i q hq; exact h2 ys q hq
          · cases hv
        | _ => simp only [raw] at hv; exact h1 _ _ hv
      simp only [needArgs, this, ih r hr]
    · cases hx
theorem pubs_none {xs : List SV} {K : List LE → Hp → Prop} {fu : Nat} (hn : needArgs L xs = none) : pubs (fu + 1) xs K L h = K L h := by
  rw [pubs, hn]
theorem raws_args : ∀ (svs : List SV) (vs : List Value), raws L svs = some vs → rawArgs L svs = some vs
  | [], vs, h => h
  | x :: xs, vs, h => by
    simp only [raws] at h
    split at h
    · rename_i v r hv hr
      injection h with h
      have hx : raw L x = some v := by cases x <;> first | exact hv | (simp only [raw1] at hv; cases hv)
      simp only [rawArgs, hx, raws_args xs r hr, h]
    · cases h
theorem appN_app {m cap : Nat} {ety size bytes : Nat} {A : Option Addr} {y : SV} {d : Option Nat} {K : KT} (hp : wpAppN n ety size bytes A m cap y d e L h K) : wpApp n ety size bytes A m cap y d e L h K := by
  unfold wpAppN at hp
  unfold wpApp
  split at hp
  · exact .done (app_appK hp)
  · split at hp
    · split at hp
      · split at hp
        · rename_i rr _ _ vs hvs
          rw [pubs_none (rawArgs_need rr vs (raws_args rr vs hvs)), hvs]
          exact .done (app_appK hp)
        · exact hp.elim
      · exact hp.elim
    · exact hp.elim
  · exact hp.elim

theorem callN_call {f : FuncId} {svs : List SV} {d : Option Nat} {K : KT} (hp : wpCallN P n f svs d e L h K) : wpCall P n f svs d e L h K := by
  unfold wpCallN at hp
  unfold wpCall
  split at hp
  · rename_i vs hvs
    simp only [pubs, rawArgs_need svs vs hvs, hvs]
    clear hvs
    induction hp with
    | mk R hc _ k => exact .done (.mk R hc k)
    | pub i ety size A m cap xs hi _ ih => exact .pub i ety size A m cap xs hi fun h' hle hr hf => ih h' hle hr hf
  · exact hp.elim
theorem calm_wpK {k : IK} {d : Option Nat} {K : KT} (hp : wpK P n (calm k) d e L h K) : wpK P n k d e L h K := by
  cases k <;> first | exact hp | skip
  case call f as => exact callN_call hp
  case callv x as =>
    simp only [calm, wpK] at hp ⊢
    split at hp
    · exact callN_call hp
    · exact hp.elim
  case append t ety s b z x y =>
    simp only [calm, wpK] at hp ⊢
    split at hp
    · exact appN_app hp
    · split at hp
      · rename_i cs ty _
        cases hb : (Nat.beq cs.length (_ * s) && Nat.ble _ _ && Nat.beq ty ety && Nat.ble _ 9223372036854775807) with
        | false => rw [hb] at hp; exact hp.elim
        | true =>
          rw [hb] at hp
          simp only [cond_true] at hp ⊢
          split at hp
          · obtain ⟨kk⟩ := hp
            exact ⟨fun b hb => appN_app (kk b hb)⟩
          · exact hp.elim
      · exact hp.elim
    · exact hp.elim
theorem calm_wpI {o : IOp} {K : KT} (hp : wpI P n (calmOp o) e L h K) : wpI P n o e L h K := by
  unfold wpI calmOp at *
  simp only at hp ⊢
  split at hp
  · exact calm_wpK hp
  · rename_i t want hg
    split at hp
    · rename_i b hb
      cases want <;> cases b <;> simp only [br] at hp ⊢ <;> first | exact calm_wpK hp | exact hp
    · exact hp
    · exact hp.elim

theorem callF_call {f : FuncId} {svs : List SV} {d : Option Nat} {K : KT} (hp : wpCallF P n f svs d e L h K) : wpCall P n f svs d e L h K := by
  unfold wpCallF at hp
  unfold wpCall
  split at hp
  · rename_i vs hvs
    obtain ⟨R, hc, k⟩ := hp
    simp only [pubs, rawArgs_need svs vs hvs, hvs]
    exact .done (.mk R hc k)
  · exact hp.elim
theorem free_wpK {k : IK} {d : Option Nat} {K : KT} (hp : wpK P n (freeK k) d e L h K) : wpK P n k d e L h K := by
  cases k <;> first | exact calm_wpK hp | skip
  exact callF_call hp
theorem free_wpI {o : IOp} {K : KT} (hp : wpI P n (freeOp o) e L h K) : wpI P n o e L h K := by
  unfold wpI freeOp at *
  simp only at hp ⊢
  split at hp
  · exact free_wpK hp
  · rename_i t want hg
    split at hp
    · rename_i b hb
      cases want <;> cases b <;> simp only [br] at hp ⊢ <;> first | exact free_wpK hp | exact hp
    · exact hp
    · exact hp.elim
structure Sim (P : Program) (sf : List Nat) (h0 : Hp) (w0 : World) (n N0 : Nat) (ops : Array Oper) (listed : Array Bool) (a : Act) (w : World) (E : List (Nat × Value)) (done : List Nat) (e : Env) (L : List LE) (h : Hp) (β : Nat → Nat) : Prop where
  size : listed.size = ops.size
  closed : Closed ops fun j => listed.getD j false = true
  dclosed : Closed ops fun j => j ∈ done
  sub : ∀ j, listed.getD j false = true → j ∈ done
  pend : ∀ j, j ∈ done → listed.getD j false = true ∨ ∃ v, (j, v) ∈ E
  dlt : ∀ j, j ∈ done → j < ops.size
  nodup : (E.map (·.1)).Nodup
  info : ∀ j v, (j, v) ∈ E → j ∈ done ∧ listed.getD j false = false ∧ ∃ oj d, ops[j]? = some oj ∧ oj.dst = some d ∧ isV (lowKind P oj.op) = true ∧
    ∃ C : World → Prop, (isMem (lowKind P oj.op) = true → ∀ w', See β (mskIf (mflag P sf ops (Region.before ops) j) N0 L) (mskH (mflag P sf ops (Region.before ops) j) h) w' → C w') ∧ ∀ w', (isMem (lowKind P oj.op) = true → C w') → Now P ops oj (puts ops E a) v w'
  mem : Mem h0 w0 β L h w
  rel : Rel n β L e (puts ops E a)
  okl : OkL L

def TodoOk (P : Program) (sf : List Nat) (ops : Array Oper) (done : List Nat) (t : Todo) : Prop :=
  (idx t).Nodup ∧ ∀ i o, (i, o) ∈ t ↔ (i ∉ done ∧ ∃ oi, ops[i]? = some oi ∧ o = { o := oddOp P sf ops (Region.before ops) i oi, after := (oi.after.toList.filter (Region.binds .any)).map (·.on), m := mflag P sf ops (Region.before ops) i })

theorem rdy_of {oi : Oper} {done : List Nat} : rdy done ((oi.after.toList.filter (Region.binds .any)).map (·.on)) = true ↔ ∀ x ∈ oi.after, Region.binds .any x = true → x.on ∈ done := by
  rw [rdy_iff]
  constructor
  · intro hh x hx hb
    exact hh x.on (List.mem_map.2 ⟨x, List.mem_filter.2 ⟨by simpa using hx, hb⟩, rfl⟩)
  · intro hh j hj
    obtain ⟨x, hx, rfl⟩ := List.mem_map.1 hj
    obtain ⟨h1, h2⟩ := List.mem_filter.1 hx
    exact hh x (by simpa using h1) h2

theorem TodoOk.step {sf : List Nat} {ops : Array Oper} {done : List Nat} {t r : Todo} (ht : TodoOk P sf ops done t) {i : Nat} (hn : (idx r).Nodup) (hr : ∀ x, x ∈ r ↔ x ∈ t ∧ x.1 ≠ i) : TodoOk P sf ops (i :: done) r := by
  refine ⟨hn, fun j o => ?_⟩
  rw [hr, ht.2 j o]
  simp only [List.mem_cons, not_or]
  constructor
  · rintro ⟨⟨a, b⟩, c⟩; exact ⟨⟨c, a⟩, b⟩
  · rintro ⟨⟨c, a⟩, b⟩; exact ⟨⟨a, b⟩, c⟩

theorem dst_of {ops : Array Oper} {i : Nat} {oi : Oper} (hi : ops[i]? = some oi) : dstOf ops i = oi.dst := by simp [dstOf, hi]

/-- The walk takes a reading operation ahead of the run. -/
theorem oddOp_isV {sf : List Nat} {ops : Array Oper} {b : Array Nat} {i : Nat} {o : Oper} : isV (oddOp P sf ops b i o).k = isV (lowOp P ops o).k := by
  unfold oddOp; split
  · rfl
  · split
    · exact free_isV _
    · exact calm_isV _
theorem Sim.ahead {sf : List Nat} {N0 : Nat} {ops : Array Oper} {listed : Array Bool} {E : List (Nat × Value)} {done : List Nat} {K : KT} (ok : OddOk P ops) (S : Sim P sf h0 w0 n N0 ops listed a w E done e L h β) {i : Nat} {oi : Oper} (hi : ops[i]? = some oi) (hnd : i ∉ done)
    (hpre : ∀ x ∈ oi.after, Region.binds .any x = true → x.on ∈ done) (hk : isV (oddOp P sf ops (Region.before ops) i oi).k = true) (hp : wpI P n (oddOp P sf ops (Region.before ops) i oi) e (mskIf (mflag P sf ops (Region.before ops) i) N0 L) (mskH (mflag P sf ops (Region.before ops) i) h) K) :
    ∃ e' v, K e' (mskIf (mflag P sf ops (Region.before ops) i) N0 L) (mskH (mflag P sf ops (Region.before ops) i) h) ∧ Sim P sf h0 w0 n N0 ops listed a w ((i, v) :: E) (i :: done) e' L h β := by
  have hk0 : isV (lowOp P ops oi).k = true := by rw [← oddOp_isV]; exact hk
  have hk' : isV (lowKind P oi.op) = true := by
    unfold lowOp at hk0
    split at hk0
    · exact hk0
    · cases hk0
  have hcalm : oddOp P sf ops (Region.before ops) i oi = lowOp P ops oi := by
    unfold oddOp
    split
    · rfl
    · split
      · unfold freeOp
        rw [free_V hk0]
      · unfold calmOp
        rw [calm_V hk0]
  rw [hcalm] at hp
  obtain ⟨d, hd, hown⟩ := ok.dst i oi hi hk'
  obtain ⟨_, sv, q1, q2, q3, q4⟩ := wpI_V (see_mk S.mem.see) (rel_mk S.rel) (okL_mk S.okl) hk0 hd hp
  have hlt : i < ops.size := (Array.getElem?_eq_some_iff.1 hi).1
  have hdi : dstOf ops i = some d := by rw [dst_of hi, hd]
  refine ⟨upd e d sv, sv.c β, q1, ⟨S.size, S.closed, ?_, fun j hj => List.mem_cons_of_mem _ (S.sub j hj), fun j hj => ?_, fun j hj => ?_, ?_, fun j v hj => ?_, S.mem, ?_, S.okl⟩⟩
  · intro j oj hj hjd x hx hb
    rcases List.mem_cons.1 hjd with rfl | hjd
    · rw [hi] at hj; injection hj with hj; subst hj
      exact List.mem_cons_of_mem _ (hpre x hx hb)
    · exact List.mem_cons_of_mem _ (S.dclosed j oj hj hjd x hx hb)
  · rcases List.mem_cons.1 hj with rfl | hj
    · exact .inr ⟨_, List.mem_cons_self ..⟩
    · rcases S.pend j hj with h1 | ⟨v, h1⟩
      · exact .inl h1
      · exact .inr ⟨v, List.mem_cons_of_mem _ h1⟩
  · rcases List.mem_cons.1 hj with rfl | hj
    · exact hlt
    · exact S.dlt j hj
  · rw [List.map_cons, List.nodup_cons]
    refine ⟨fun hm => ?_, S.nodup⟩
    obtain ⟨x, hx, hxi⟩ := List.mem_map.1 hm
    have hx1 := (S.info x.1 x.2 hx).1
    rw [hxi] at hx1
    exact hnd hx1
  · -- what is known of a pending one stays, and the new one is known
    have keep : ∀ (k : Nat) (ok' : Oper) (u : Value) (w' : World), k ∈ done → ops[k]? = some ok' → Now P ops ok' (puts ops E a) u w' → Now P ops ok' (puts ops ((i, sv.c β) :: E) a) u w' := by
      intro k ok' u w' hkd hok hnow
      have hne : k ≠ i := fun e => hnd (by rw [← e]; exact hkd)
      have hnot : ∀ t, dstOf ops i = some t → t ∉ ok'.looksAt ops := by
        intro t ht hm
        rw [hdi] at ht; injection ht with ht; subst ht
        rcases ok.A k i ok' oi hne hok hi d hd hm with hpr | ⟨hnv, _⟩
        · exact hnd (hpr _ S.dclosed hkd)
        · rw [hk'] at hnv; cases hnv
      have e1 := execOp_put (ops := ops) ok' (fun cs b => ok.nosel k ok' cs b hok) (puts ops E a) (dstOf ops i) (sv.c β) hnot
      have e2 := wanted_put (ops := ops) ok' (puts ops E a) (dstOf ops i) (sv.c β) hnot
      unfold Now at hnow ⊢
      simp only [puts]
      rw [e1, e2]
      exact hnow
    rcases List.mem_cons.1 hj with hj | hj
    · injection hj with e1 e2
      subst e1; subst e2
      refine ⟨List.mem_cons_self .., ?_, oi, d, hi, hd, hk', fun w' => See β (mskIf (mflag P sf ops (Region.before ops) j) N0 L) (mskH (mflag P sf ops (Region.before ops) j) h) w', fun _ _ hs => hs, fun w' hw' => ?_⟩
      · cases hl : listed.getD j false with
        | false => rfl
        | true => exact absurd (S.sub j hl) hnd
      · have hnow := q4 w' hw'
        have hnot : ∀ t, dstOf ops j = some t → t ∉ oi.looksAt ops := by
          intro t ht hm
          rw [hdi] at ht; injection ht with ht; subst ht
          exact hown hm
        have e1 := execOp_put (ops := ops) oi (fun cs b => ok.nosel j oi cs b hi) (puts ops E a) (dstOf ops j) (sv.c β) hnot
        have e2 := wanted_put (ops := ops) oi (puts ops E a) (dstOf ops j) (sv.c β) hnot
        unfold Now at hnow ⊢
        simp only [puts]
        rw [e1, e2]
        exact hnow
    · obtain ⟨i1, i2, oj, d', i3, i4, i5, C, i6, i7⟩ := S.info j v hj
      exact ⟨List.mem_cons_of_mem _ i1, i2, oj, d', i3, i4, i5, C, i6, fun w' hw' => keep j oj v w' i1 i3 (i7 w' hw')⟩
  · simp only [puts]
    rw [hdi]
    exact S.rel.put q3 (ok_mk.1 q2)

/-- All reading operations that can come are taken ahead. -/
theorem Sim.saturate {sf : List Nat} {N0 : Nat} {ops : Array Oper} {listed : Array Bool} {K : KT} (ok : OddOk P ops) : ∀ (f : Nat) (done : List Nat) (t : Todo) (E : List (Nat × Value)) (e : Env), Sim P sf h0 w0 n N0 ops listed a w E done e L h β → TodoOk P sf ops done t → wpOddF P n N0 f done t e L h K →
    ∃ f' done' t' E' e', Sim P sf h0 w0 n N0 ops listed a w E' done' e' L h β ∧ TodoOk P sf ops done' t' ∧ wpOddF P n N0 f' done' t' e' L h K ∧ pickV done' t' = none := by
  intro f
  induction f with
  | zero =>
    intro done t E e S ht hp
    cases t with
    | nil => exact ⟨0, done, [], E, e, S, ht, hp, rfl⟩
    | cons x r => exact hp.elim
  | succ f ih =>
    intro done t E e S ht hp
    cases t with
    | nil => exact ⟨0, done, [], E, e, S, ht, hp, rfl⟩
    | cons x r =>
      cases hv : pickV done (x :: r) with
      | none => exact ⟨f + 1, done, x :: r, E, e, S, ht, hp, hv⟩
      | some y =>
        obtain ⟨i, o, r'⟩ := y
        simp only [wpOddF, hv] at hp
        obtain ⟨q1, q2, q3, q4, q5⟩ := pickV_some hv ht.1
        obtain ⟨hnd, oi, hi, rfl⟩ := (ht.2 i o).1 q1
        obtain ⟨e', v, hK, S'⟩ := S.ahead ok hi hnd (rdy_of.1 q3) q2 hp
        exact ih (i :: done) r' _ e' S' (ht.step q4 q5) hK

theorem getD_lt {listed : Array Bool} {j : Nat} (h : listed.getD j false = true) : j < listed.size := by
  rcases Nat.lt_or_ge j listed.size with h' | h'
  · exact h'
  · simp [Array.getElem?_eq_none h'] at h
theorem getD_tf {listed : Array Bool} {j : Nat} (h : listed.getD j true = false) : listed.getD j false = false := by
  rcases Nat.lt_or_ge j listed.size with h' | h'
  · simp [h'] at h ⊢; exact h
  · simp [Array.getElem?_eq_none h'] at h
theorem getD_ft {listed : Array Bool} {j : Nat} (hj : j < listed.size) (h : listed.getD j false = false) : listed.getD j true = false := by
  simp [hj] at h ⊢; exact h
theorem getD_set_iff {listed : Array Bool} {i j : Nat} (hi : i < listed.size) : (listed.setIfInBounds i true).getD j false = true ↔ j = i ∨ listed.getD j false = true := by
  by_cases e : i = j
  · subst e; simp [hi]
  · rw [getD_set_ne false e]; simp [Ne.symm e]

/-- Nothing can come: all has come. -/
theorem all_listed {ops : Array Oper} {listed : Array Bool} (ok : OddOk P ops) (hs : listed.size = ops.size) (hr : Region.ready .any ops listed = []) : ∀ j, j < ops.size → listed.getD j false = true := by
  intro j
  induction j using Nat.strongRecOn with
  | _ j ih =>
    intro hj
    cases hl : listed.getD j false with
    | true => rfl
    | false =>
      exfalso
      have : j ∈ Region.ready .any ops listed := by
        refine mem_ready.2 ⟨getD_ft (by omega) hl, ops[j], Array.getElem?_eq_getElem hj, fun x hx hb => ?_⟩
        have hlt := ok.lt j ops[j] (Array.getElem?_eq_getElem hj) x hx hb
        exact ih x.on hlt (by omega)
      rw [hr] at this
      cases this

theorem Closed.set {ops : Array Oper} {listed : Array Bool} (hc : Closed ops fun j => listed.getD j false = true) {i : Nat} (hi : i ∈ Region.ready .any ops listed) (hlt : i < listed.size) : Closed ops fun j => (listed.setIfInBounds i true).getD j false = true := by
  obtain ⟨_, oi, hoi, hall⟩ := mem_ready.1 hi
  intro j oj hj hl x hx hb
  rcases (getD_set_iff hlt).1 hl with rfl | hl
  · rw [hoi] at hj; injection hj with hj; subst hj
    exact getD_set_true (hall x hx hb)
  · exact getD_set_true (hc j oj hj hl x hx hb)

/-- An operation that only makes a block, in the walk's own state; the blocks that were there keep their numbers. -/
theorem exec_new {o : Oper} {K : KT} {next : Act → World → Prop} {Q : Exit → Act → World → Prop} {C : (Nat → Nat) → Prop} (hC : ∀ β', (∀ i, i < L.length → β' i = β i) → C β') (ho : Out h0 w0 n C K next) (hk : isNew (lowKind P o.op) = true)
    (m : Mem h0 w0 β L h w) (r : Rel n β L e a) (hL : OkL L) (hp : wpK P n (lowKind P o.op) o.dst e L h K) : o.wp P a w next Q := by
  cases hop : o.op with
  | alloc t =>
    rw [hop] at hp
    simp only [lowKind] at hp
    split at hp
    · rename_i i hi
      split at hp
      · rename_i z hz; exact exec_alloc hop hi hz hC ho m r hL hp
      · exact hp.elim
    · exact hp.elim
  | box t x => rw [hop] at hp; exact exec_box hop hC ho m r hL hp
  | buildSlice t len ps =>
    rw [hop] at hp
    simp only [lowKind] at hp
    split at hp
    · rename_i el hu
      split at hp
      · rename_i s b zs he
        obtain ⟨i, z, hi, hz, e1, e2, e3, e4, e5⟩ := elemOk_spec he
        subst e1; subst e5
        exact exec_bslice hop hu hi hz e3 hC ho m r hL hp
      · exact hp.elim
    · exact hp.elim
  | makeSlice t x y =>
    rw [hop] at hp
    simp only [lowKind] at hp
    split at hp
    · rename_i el hu
      split at hp
      · rename_i s b zs he; exact exec_mkslice hop hu he hC ho m r hL hp
      · exact hp.elim
    · exact hp.elim
  | makeFunc fn first caps => rw [hop] at hk; cases fn <;> simp only [lowKind] at hk <;> (repeat' split at hk) <;> cases hk
  | binOp op t x y t' => rw [hop] at hk; cases op <;> simp only [lowKind, lowEq] at hk <;> (repeat' split at hk) <;> cases hk
  | unOp op t x => rw [hop] at hk; cases op <;> simp only [lowKind] at hk <;> (repeat' split at hk) <;> cases hk
  | makeMap t r => rw [hop] at hk; cases r <;> cases hk
  | call c =>
    rw [hop] at hk
    obtain ⟨cal, args, tys⟩ := c
    cases cal with
    | value f => cases f <;> cases hk
    | invoke x y => cases hk
    | builtin b => cases b <;> simp only [lowKind] at hk <;> (repeat' split at hk) <;> cases hk
  | move x => rw [hop] at hk; cases hk
  | assign x => rw [hop] at hp; exact exec_set hop hC ho m r hL hp
  | pick c x y => rw [hop] at hk; cases hk
  | build t ps => rw [hop] at hk; simp only [lowKind] at hk; (repeat' split at hk) <;> cases hk
  | insert t m k v => rw [hop] at hk; cases hk
  | load t x => rw [hop] at hk; simp only [lowKind] at hk; (repeat' split at hk) <;> cases hk
  | store t x y => rw [hop] at hk; simp only [lowKind] at hk; (repeat' split at hk) <;> cases hk
  | ready g => rw [hop] at hk; cases hk
  | waits g => rw [hop] at hk; cases hk
  | nilCheck x => rw [hop] at hk; cases hk
  | convert s d x => rw [hop] at hk; simp only [lowKind] at hk; (repeat' split at hk) <;> cases hk
  | sliceToArrayPointer t x => rw [hop] at hk; cases hk
  | makeInterface t x => rw [hop] at hk; cases hk
  | makeChan t x => rw [hop] at hk; cases hk
  | slice t x lo hi mx => rw [hop] at hk; simp only [lowKind] at hk; (repeat' split at hk) <;> cases hk
  | fieldAddr t x i => rw [hop] at hk; simp only [lowKind] at hk; (repeat' split at hk) <;> cases hk
  | field t x i => rw [hop] at hk; simp only [lowKind] at hk; (repeat' split at hk) <;> cases hk
  | indexAddr t x i => rw [hop] at hk; simp only [lowKind] at hk; (repeat' split at hk) <;> cases hk
  | index t x i => rw [hop] at hk; cases hk
  | lookup t x k b => rw [hop] at hk; simp only [lowKind] at hk; (repeat' split at hk) <;> cases hk
  | mapUpdate t m k v => rw [hop] at hk; simp only [lowKind] at hk; (repeat' split at hk) <;> cases hk
  | mapEntry t m k => rw [hop] at hk; cases hk
  | entryStore t m s v => rw [hop] at hk; cases hk
  | range t x => rw [hop] at hk; simp only [lowKind] at hk; (repeat' split at hk) <;> cases hk
  | next x b => rw [hop] at hk; simp only [lowKind] at hk; (repeat' split at hk) <;> cases hk
  | entry x => rw [hop] at hk; cases hk
  | typeAssert x t s b => rw [hop] at hk; cases hk
  | extract x i => rw [hop] at hk; cases hk
  | go c => rw [hop] at hk; cases hk
  | defer c => rw [hop] at hk; cases hk
  | panic x => rw [hop] at hk; cases hk
  | send c x => rw [hop] at hk; cases hk
  | recv t c b => rw [hop] at hk; cases hk
  | select cs b => rw [hop] at hk; cases hk

theorem wpI_sound_new {ops : Array Oper} {o : Oper} {K : KT} {next : Act → World → Prop} {Q : Exit → Act → World → Prop} {C : (Nat → Nat) → Prop} (hC : ∀ β', (∀ i, i < L.length → β' i = β i) → C β') (ho : Out h0 w0 n C K next) (hk : isNew (lowKind P o.op) = true)
    (m : Mem h0 w0 β L h w) (r : Rel n β L e a) (hL : OkL L) (hp : wpI P n (lowOp P ops o) e L h K) :
    if Region.wanted o (yielded ops a.tmps) then o.wp P a w next Q else next (a.put o.dst undef) w := by
  have hC0 : C β := hC β fun _ _ => rfl
  unfold lowOp at hp
  split at hp
  · rename_i g hg
    cases hgd : o.guard with
    | none =>
      rw [hgd] at hg
      injection hg with hg
      subst hg
      simp only [wpI] at hp
      rw [if_pos (by simp [Region.wanted, hgd])]
      exact exec_new hC ho hk m r hL hp
    | some jw =>
      obtain ⟨j, want⟩ := jw
      rw [hgd] at hg
      simp only [lowGuard] at hg
      split at hg
      · rename_i oj hj
        split at hg
        · rename_i t ht
          injection hg with hg
          subst hg
          obtain ⟨y1, y2⟩ := yielded_of r hj ht
          simp only [wpI] at hp
          split at hp
          · rename_i b hb
            have hy := y1 b hb
            cases want <;> cases b <;> simp only [br] at hp
            · rw [upd_self hb] at hp
              rw [if_pos (by simp [Region.wanted, hgd, hy])]
              exact exec_new hC ho hk m r hL hp
            · rw [upd_self hb] at hp
              rw [if_neg (by simp [Region.wanted, hgd, hy])]
              exact putS_sound ho hC0 m r hL (x := .v undef) trivial hp
            · rw [upd_self hb] at hp
              rw [if_neg (by simp [Region.wanted, hgd, hy])]
              exact putS_sound ho hC0 m r hL (x := .v undef) trivial hp
            · rw [upd_self hb] at hp
              rw [if_pos (by simp [Region.wanted, hgd, hy])]
              exact exec_new hC ho hk m r hL hp
          · rename_i vs hb
            have hy := y2 vs hb
            rw [if_neg (by simp [Region.wanted, hgd, hy])]
            exact putS_sound ho hC0 m r hL (x := .v undef) trivial hp
          · exact hp.elim
        · cases hg
      · cases hg
  · exact hp.elim

/-- a guard that has been decided -/
theorem guardedC (c : IK → IK) (hcb : c .bad = .bad) {ops : Array Oper} {o : Oper} {K : KT} {next : Act → World → Prop} {Q : Exit → Act → World → Prop} (r : Rel n β L e a) (hp : wpI P n ({ d := (lowOp P ops o).d, g := (lowOp P ops o).g, k := c (lowOp P ops o).k } : IOp) e L h K)
    (run : ∀ e', e' = e → wpK P n (c (lowKind P o.op)) o.dst e' L h K → o.wp P a w next Q) (skip : putS n o.dst (.v undef) e L h K → next (a.put o.dst undef) w) :
    if Region.wanted o (yielded ops a.tmps) then o.wp P a w next Q else next (a.put o.dst undef) w := by
  unfold lowOp at hp
  split at hp
  · rename_i g hg
    cases hgd : o.guard with
    | none =>
      rw [hgd] at hg
      injection hg with hg
      subst hg
      simp only [wpI] at hp
      rw [if_pos (by simp [Region.wanted, hgd])]
      exact run e rfl hp
    | some jw =>
      obtain ⟨j, want⟩ := jw
      rw [hgd] at hg
      simp only [lowGuard] at hg
      split at hg
      · rename_i oj hj
        split at hg
        · rename_i t ht
          injection hg with hg
          subst hg
          obtain ⟨y1, y2⟩ := yielded_of r hj ht
          simp only [wpI] at hp
          split at hp
          · rename_i b hb
            have hy := y1 b hb
            cases want <;> cases b <;> simp only [br] at hp
            · rw [upd_self hb] at hp
              rw [if_pos (by simp [Region.wanted, hgd, hy])]
              exact run e rfl hp
            · rw [upd_self hb] at hp
              rw [if_neg (by simp [Region.wanted, hgd, hy])]
              exact skip hp
            · rw [upd_self hb] at hp
              rw [if_neg (by simp [Region.wanted, hgd, hy])]
              exact skip hp
            · rw [upd_self hb] at hp
              rw [if_pos (by simp [Region.wanted, hgd, hy])]
              exact run e rfl hp
          · rename_i vs hb
            have hy := y2 vs hb
            rw [if_neg (by simp [Region.wanted, hgd, hy])]
            exact skip hp
          · exact hp.elim
        · cases hg
      · cases hg
  · simp only [wpI, hcb] at hp
    exact hp.elim

theorem guarded {ops : Array Oper} {o : Oper} {K : KT} {next : Act → World → Prop} {Q : Exit → Act → World → Prop} (r : Rel n β L e a) (hp : wpI P n (calmOp (lowOp P ops o)) e L h K)
    (run : ∀ e', e' = e → wpK P n (calm (lowKind P o.op)) o.dst e' L h K → o.wp P a w next Q) (skip : putS n o.dst (.v undef) e L h K → next (a.put o.dst undef) w) :
    if Region.wanted o (yielded ops a.tmps) then o.wp P a w next Q else next (a.put o.dst undef) w := guardedC calm rfl r hp run skip

theorem putS_and {K : KT} {R : List LE → Hp → Prop} {d : Option Nat} {x : SV} {L' : List LE} {h' : Hp} (hr : R L' h') (hp : putS n d x e L' h' K) : putS n d x e L' h' fun e' L' h' => K e' L' h' ∧ R L' h' := by
  cases d with
  | none => exact ⟨hp, hr⟩
  | some d =>
    unfold putS at hp ⊢
    simp only at hp ⊢
    cases hb : Nat.blt d n with
    | false => rw [hb] at hp; exact hp.elim
    | true => rw [hb] at hp; exact ⟨hp, hr⟩

/-- what is seen of the one is seen of the other -/
def Dom (β : Nat → Nat) (L : List LE) (h : Hp) (L' : List LE) (h' : Hp) : Prop := ∀ (m : Bool) (N : Nat) (w' : World), See β (mskIf m N L') (mskH m h') w' → See β (mskIf m N L) (mskH m h) w'
theorem Dom.le {h' : Hp} (hle : h.le h') : Dom β L h L h' := by
  intro mm N w' s
  have hle' : (mskH mm h).le (mskH mm h') := by
    cases mm
    · exact hle
    · exact Hp.le_refl _
  exact ⟨s.hw.mono hle', s.see⟩
theorem Mem.pubRow (m : Mem h0 w0 β L h w) (hL : OkL L) {i ety size : Nat} {A : Option Addr} {k cap : Nat} {xs : List Value} (hi : nth L i = some (.row ety size A k cap xs)) :
    ∃ h', h.le h' ∧ RowAt h' ety size A k cap xs ∧ (∀ g, A = some g → h g.block = none) ∧ Mem h0 w0 β (setn L i .gone) h' w ∧ OkL (setn L i .gone) ∧ (∀ j, refOk L j → refOk (setn L i .gone) j) ∧ Dom β L h (setn L i .gone) h' := by
  have hs := m.see.see i _ hi
  simp only [LE.sees] at hs
  obtain ⟨⟨h1, h2⟩, h3⟩ := hs
  have hlt := nth_lt hi
  have hold : ∀ j q, nth (setn L i .gone) j = some q → q = .gone ∨ nth L j = some q := by
    intro j q hq
    rw [nth_setn _ _ _ _ hlt] at hq
    split at hq
    · injection hq with hq; exact .inl hq.symm
    · exact .inr hq
  have hnew : ∀ j q, j ≠ i → nth L j = some q → nth (setn L i .gone) j = some q := fun j q hj hq => by
    rw [nth_setn _ _ _ _ hlt, if_neg hj]; exact hq
  have dom : ∀ h', h.le h' → (∀ w', HW h' w' → (LE.row ety size A k cap xs).sees β i w') → Dom β L h (setn L i .gone) h' := by
    intro h' hle hrow mm N w' s
    cases mm with
    | true =>
      obtain ⟨s1, s2⟩ := see_msk_iff.1 s
      refine see_msk_iff.2 ⟨s1, fun q l hqN hq hr => ?_⟩
      by_cases e : q = i
      · subst e
        rw [hi] at hq
        injection hq with hq
        subst hq
        cases hr
      · exact s2 q l hqN (hnew q l e hq) hr
    | false =>
      refine ⟨s.hw.mono hle, fun q l hq => ?_⟩
      have hq : nth L q = some l := hq
      by_cases e : q = i
      · subst e
        rw [hi] at hq
        injection hq with hq
        subst hq
        exact hrow w' s.hw
      · exact s.see q l (hnew q l e hq)
  rcases h2 with ⟨h2, hn⟩ | ⟨g, c, cur, e1, e2, e3, e4⟩
  · injection h2 with ha hn' hc
    subst ha
    have href : ∀ j, refOk L j → refOk (setn L i .gone) j := fun j ⟨q, hq, hqr⟩ => by
      by_cases e : j = i
      · exact ⟨.gone, by rw [nth_setn _ _ _ _ hlt, if_pos e], rfl⟩
      · exact ⟨q, by rw [nth_setn _ _ _ _ hlt, if_neg e]; exact hq, hqr⟩
    have hlive : ∀ j q, nth (setn L i .gone) j = some q → q.live = true → nth L j = some q := fun j q hq hv => by
      rcases hold j q hq with rfl | hh
      · cases hv
      · exact hh
    have m' : Mem h0 w0 β (setn L i .gone) h w := ⟨⟨m.see.hw, fun j q hq => by
        rcases hold j q hq with rfl | hh
        · trivial
        · exact m.see.see j q hh⟩, fun j q hq hv => m.hole j q (hlive j q hq hv) hv, fun j j' q q' hq hq' hv hv' => m.inj j j' q q' (hlive j q hq hv) (hlive j' q' hq' hv') hv hv', fun j q hq hv => m.lt j q (hlive j q hq hv) hv,
        fun j q hq hv => m.lo j q (hlive j q hq hv) hv, m.os, m.tape, m.output, m.size, m.frame, m.fresh⟩
    refine ⟨h, Hp.le_refl h, ⟨h1, .inl ⟨rfl, hn, hc⟩⟩, (fun g e => by cases e), m', (hL.setOther hlt href (fun _ _ e => by cases e)), href, dom h (Hp.le_refl h) fun w' _ => ?_⟩
    simp only [LE.sees]
    exact ⟨⟨h1, .inl ⟨by rw [hn', hc], hn⟩⟩, h3⟩
  · injection e1 with e1 e1' e1''
    subst e1
    subst e1''
    have hg := h3 _ rfl
    simp only at hg
    have hhole := m.hole i _ hi rfl
    rw [← hg] at hhole
    obtain ⟨m', href⟩ := m.give (l' := .gone) hi rfl rfl rfl trivial (by rw [← hg]; exact e3)
    rw [← hg] at m'
    refine ⟨h.put g (.cells cur ety (0, 0)), Hp.le_put hhole, ⟨h1, .inr ⟨g, cur, rfl, Hp.put_same _ _ _, e4.1, e4.2.1, e4.2.2.1, e4.2.2.2⟩⟩, (fun g' e => by injection e with e; subst e; exact hhole), m', (hL.setOther hlt href (fun _ _ e => by cases e)), href, dom _ (Hp.le_put hhole) fun w' hw' => ?_⟩
    simp only [LE.sees]
    exact ⟨⟨h1, .inr ⟨g, _, cur, rfl, e2, hw' _ _ (Hp.put_same _ _ _), e4⟩⟩, h3⟩
theorem fnM_run {f : FuncId} {vs : Array Value} {KV : Value → List LE → Hp → Prop} (hp : EvFnM P f vs KV L h) (m : Mem h0 w0 β L h w) (hL : OkL L) :
    ∃ L' h', Mem h0 w0 β L' h' w ∧ OkL L' ∧ (∀ j, refOk L j → refOk L' j) ∧ Dom β L h L' h' ∧ ∃ R : Value → Hp → Prop, Fn P f vs h' R ∧ (∀ v h'', R v h'' → h'.le h'') ∧ ∀ v h'', R v h'' → KV v L' h'' := by
  induction hp with
  | @mk L h R hc hle k => exact ⟨L, h, m, hL, fun _ => id, Dom.le (Hp.le_refl h), R, hc, hle, k⟩
  | @pub L h i ety size A k cap xs hi _ ih =>
    obtain ⟨h1, hle, hr, hf, m1, hL1, href, d1⟩ := m.pubRow hL hi
    obtain ⟨L2, h2, m2, hL2, href2, d2, R, q⟩ := ih h1 hle hr hf m1 hL1
    exact ⟨L2, h2, m2, hL2, fun j hj => href2 j (href j hj), fun mm N w' s => d1 mm N w' (d2 mm N w' s), R, q⟩
theorem exec_callN {o : Oper} {f : FuncId} {svs : List SV} {K : KT} {next : Act → World → Prop} {Q : Exit → Act → World → Prop} (ho : Out h0 w0 n (fun β' => β' = β) (fun e' L' h' => K e' L' h' ∧ Dom β L h L' h') next)
    (m : Mem h0 w0 β L h w) (r : Rel n β L e a) (hL : OkL L) (hp : wpCallN P n f svs o.dst e L h K) (hrun : ∀ vs : List Value, svs.map (SV.c β) = vs → (∃ fn, P.funcs[f]? = some fn ∧ fn.body.isSome = true ∧ (fn.name == "runtime.NumGoroutine") = false) → (execOp a.eval o).run P w = .ok (.enter f vs.toArray) w) : o.wp P a w next Q := by
  unfold wpCallN at hp
  split at hp
  · rename_i vs hvs
    have hc := rawArgs_c m.see svs vs hvs
    obtain ⟨L1, h1, m1, hL1, href, dm, R, hcall, hle, k⟩ := fnM_run hp m hL
    unfold Oper.wp
    rw [hrun vs hc hcall.body, Oper.upon_enter]
    refine (hcall.run w m1.see.hw).mono ?_
    rintro ev w' ⟨v, h', rfl, hR, hx⟩
    have hk := k v h' hR
    refine putS_sound ho rfl (m1.ext hx) (r.agree (fun _ _ => rfl) href) hL1 (x := .v v) trivial ?_
    exact putS_and (R := fun L' h' => Dom β L h L' h') (fun mm N w2 s => dm mm N w2 (Dom.le (hle v h' hR) mm N w2 s)) hk
  · exact hp.elim

theorem freeCall_spec {sf : List Nat} {o : Oper} (h : freeCall P sf o = true) : ∃ f as, lowKind P o.op = .call f as := by
  unfold freeCall at h
  split at h
  · rename_i f as hk; exact ⟨f, as, hk⟩
  · cases h
theorem wpI_sound_free {sf : List Nat} {ops : Array Oper} {o : Oper} {K : KT} {next : Act → World → Prop} {Q : Exit → Act → World → Prop} (ho : Out h0 w0 n (fun β' => β' = β) (fun e' L' h' => K e' L' h' ∧ L' = L) next) (hf : freeCall P sf o = true)
    (m : Mem h0 w0 β L h w) (r : Rel n β L e a) (hL : OkL L) (hp : wpI P n (freeOp (lowOp P ops o)) e L h K) :
    if Region.wanted o (yielded ops a.tmps) then o.wp P a w next Q else next (a.put o.dst undef) w := by
  refine guardedC freeK rfl r hp ?_ (fun hs => putS_sound ho rfl m r hL (x := .v undef) trivial (putS_and (R := fun L' _ => L' = L) rfl hs))
  rintro e' rfl hw
  obtain ⟨g, as, hk⟩ := freeCall_spec hf
  rw [hk] at hw
  simp only [freeK, wpK] at hw
  cases hop : o.op with
  | call c =>
    rw [hop] at hk
    obtain ⟨cal, args, tys⟩ := c
    cases cal with
    | value f =>
      cases f with
      | func g' =>
        have hk' : IK.call g' (args.toList.map lowArg) = IK.call g as := hk
        injection hk' with e1 e2
        subst e1; subst e2
        unfold wpCallF at hw
        split at hw
        · rename_i vs hvs
          have hc := rawArgs_c m.see _ vs hvs
          obtain ⟨R, hcall, k⟩ := hw
          have he : args.map a.eval = vs.toArray := by
            rw [← hc]
            apply Array.ext'
            simp only [Array.toList_map, List.map_map]
            exact List.map_congr_left fun x _ => r.eval x
          have hrun : (execOp a.eval o).run P w = .ok (.enter g' vs.toArray) w := by
            simp [execOp, hop, resolve, Deferred.ofValue, Act.eval, invoke, he, run_callFunc hcall.body]
          unfold Oper.wp
          rw [hrun, Oper.upon_enter]
          refine (hcall.run w m.see.hw).mono ?_
          rintro ev w' ⟨v, h', rfl, hR, hx⟩
          exact putS_sound ho rfl (m.ext hx) r hL (x := .v v) trivial (putS_and (R := fun L' _ => L' = L) rfl (k v h' hR))
        · exact hw.elim
      | tmp t => cases hk
      | const v => cases hk
      | global g => cases hk
    | invoke x y => cases hk
    | builtin b => cases b <;> simp only [lowKind] at hk <;> (repeat' split at hk) <;> cases hk
  | makeFunc fn first caps => rw [hop] at hk; cases fn <;> simp only [lowKind] at hk <;> (repeat' split at hk) <;> cases hk
  | binOp op t x y t' => rw [hop] at hk; cases op <;> simp only [lowKind, lowEq] at hk <;> (repeat' split at hk) <;> cases hk
  | _ => rw [hop] at hk; simp only [lowKind] at hk; (repeat' split at hk) <;> cases hk

theorem wpI_sound_call {ops : Array Oper} {o : Oper} {K : KT} {next : Act → World → Prop} {Q : Exit → Act → World → Prop} (ho : Out h0 w0 n (fun β' => β' = β) (fun e' L' h' => K e' L' h' ∧ Dom β L h L' h') next) (hk : isCall (lowKind P o.op) = true)
    (m : Mem h0 w0 β L h w) (r : Rel n β L e a) (hL : OkL L) (hp : wpI P n (calmOp (lowOp P ops o)) e L h K) :
    if Region.wanted o (yielded ops a.tmps) then o.wp P a w next Q else next (a.put o.dst undef) w := by
  refine guarded r hp ?_ (fun hs => putS_sound ho rfl m r hL (x := .v undef) trivial (putS_and (R := fun L' h' => Dom β L h L' h') (Dom.le (Hp.le_refl h)) hs))
  rintro e' rfl hw
  cases hop : o.op with
  | call c =>
    rw [hop] at hw hk
    obtain ⟨cal, args, tys⟩ := c
    cases cal with
    | value f =>
      have viaV : ∀ x, wpK P n (.callvN (lowArg x) (args.toList.map lowArg)) o.dst e' L h K → o.op = .call { callee := .value x, args := args, argTypes := tys } → o.wp P a w next Q := by
        intro x hw hop
        simp only [wpK] at hw
        have hx := r.eval x
        split at hw
        · rename_i g first caps hpx
          rw [hpx] at hx
          refine exec_callN ho m r hL hw fun vs hvs hb => ?_
          have he : first ++ args.map a.eval ++ caps = vs.toArray := by
            rw [← hvs]
            apply Array.ext'
            simp only [Array.toList_append, Array.toList_map, List.map_append, List.map_map]
            rw [List.append_assoc]
            have hv : ∀ l : List Value, l.map (SV.c β ∘ SV.v) = l := fun l => by
              induction l with
              | nil => rfl
              | cons y l ih => rw [List.map_cons, ih]; rfl
            rw [hv, hv]
            congr 2
            exact List.map_congr_left fun y _ => r.eval y
          simp only [execOp, hop, resolve, Deferred.ofValue, hx, SV.c, SV.c1, invoke, Sem.run_bind, Sem.run_pure, Result.andThen_ok]
          rw [he, run_callFunc hb]
        · exact hw.elim
      cases f with
      | func g =>
        refine exec_callN (svs := (args.toList.map lowArg).map (Arg.get e')) ho m r hL hw fun vs hvs hb => ?_
        have he : args.map a.eval = vs.toArray := by
          rw [← hvs]
          apply Array.ext'
          simp only [Array.toList_map, List.map_map]
          exact List.map_congr_left fun x _ => r.eval x
        simp [execOp, hop, resolve, Deferred.ofValue, Act.eval, invoke, he, run_callFunc hb]
      | tmp t => exact viaV _ hw hop
      | const v => exact viaV _ hw hop
      | global g => exact viaV _ hw hop
    | invoke x y => cases hk
    | builtin b => cases b <;> simp only [lowKind] at hk <;> (repeat' split at hk) <;> cases hk
  | makeFunc fn first caps => rw [hop] at hk; cases fn <;> simp only [lowKind] at hk <;> (repeat' split at hk) <;> cases hk
  | binOp op t x y t' => rw [hop] at hk; cases op <;> simp only [lowKind, lowEq] at hk <;> (repeat' split at hk) <;> cases hk
  | unOp op t x => rw [hop] at hk; cases op <;> simp only [lowKind] at hk <;> (repeat' split at hk) <;> cases hk
  | makeMap t r => rw [hop] at hk; cases r <;> cases hk
  | move x => rw [hop] at hk; cases hk
  | assign x => rw [hop] at hk; cases hk
  | pick c x y => rw [hop] at hk; cases hk
  | ready g => rw [hop] at hk; cases hk
  | waits g => rw [hop] at hk; cases hk
  | nilCheck x => rw [hop] at hk; cases hk
  | insert t m k v => rw [hop] at hk; cases hk
  | convert s d x => rw [hop] at hk; simp only [lowKind] at hk; (repeat' split at hk) <;> cases hk
  | sliceToArrayPointer t x => rw [hop] at hk; cases hk
  | makeInterface t x => rw [hop] at hk; cases hk
  | makeChan t x => rw [hop] at hk; cases hk
  | index t x i => rw [hop] at hk; cases hk
  | mapEntry t m k => rw [hop] at hk; cases hk
  | entryStore t m s v => rw [hop] at hk; cases hk
  | range t x => rw [hop] at hk; simp only [lowKind] at hk; (repeat' split at hk) <;> cases hk
  | next x b => rw [hop] at hk; simp only [lowKind] at hk; (repeat' split at hk) <;> cases hk
  | entry x => rw [hop] at hk; cases hk
  | typeAssert x t s b => rw [hop] at hk; cases hk
  | extract x i => rw [hop] at hk; cases hk
  | go c => rw [hop] at hk; cases hk
  | defer c => rw [hop] at hk; cases hk
  | panic x => rw [hop] at hk; cases hk
  | send c x => rw [hop] at hk; cases hk
  | recv t c b => rw [hop] at hk; cases hk
  | select cs b => rw [hop] at hk; cases hk
  | box t x => rw [hop] at hk; cases hk
  | alloc t => rw [hop] at hk; simp only [lowKind] at hk; (repeat' split at hk) <;> cases hk
  | buildSlice t len ps => rw [hop] at hk; simp only [lowKind] at hk; (repeat' split at hk) <;> cases hk
  | build t ps => rw [hop] at hk; simp only [lowKind] at hk; (repeat' split at hk) <;> cases hk
  | load t x => rw [hop] at hk; simp only [lowKind] at hk; (repeat' split at hk) <;> cases hk
  | store t x y => rw [hop] at hk; simp only [lowKind] at hk; (repeat' split at hk) <;> cases hk
  | fieldAddr t x i => rw [hop] at hk; simp only [lowKind] at hk; (repeat' split at hk) <;> cases hk
  | indexAddr t x i => rw [hop] at hk; simp only [lowKind] at hk; (repeat' split at hk) <;> cases hk
  | makeSlice t x y => rw [hop] at hk; simp only [lowKind] at hk; (repeat' split at hk) <;> cases hk
  | slice t x lo hi mx => rw [hop] at hk; simp only [lowKind] at hk; (repeat' split at hk) <;> cases hk
  | field t x i => rw [hop] at hk; simp only [lowKind] at hk; (repeat' split at hk) <;> cases hk
  | lookup t x k b => rw [hop] at hk; simp only [lowKind] at hk; (repeat' split at hk) <;> cases hk
  | mapUpdate t m k v => rw [hop] at hk; simp only [lowKind] at hk; (repeat' split at hk) <;> cases hk

theorem evapp_mono {ety size bytes m cap q : Nat} {A : Option Addr} {S : List Value → Prop} {K K' : SV → List LE → Prop} (hL' : ∀ i xs k' A' cap' ys, nth L i = some (.row ety size A m cap xs) → K (.v (.slice A' k' cap')) (setn L i (.row ety size A' k' cap' ys)) → K' (.v (.slice A' k' cap')) (setn L i (.row ety size A' k' cap' ys)))
    (hF : ∀ k' A' cap' ys, K (.v (.slice A' k' cap')) (L ++ [.row ety size A' k' cap' ys]) → K' (.v (.slice A' k' cap')) (L ++ [.row ety size A' k' cap' ys])) (hp : EvAppend ety size bytes A m cap q S L K) : EvAppend ety size bytes A m cap q S L K' := by
  cases hp with
  | old i xs vs hi hs h1 hm hb kk => exact .old i xs vs hi hs h1 hm hb fun A' cap' hn => hL' i xs _ A' cap' _ hi (kk A' cap' hn)
  | fresh vs hA hn hcp hs h1 hm hb kk => exact .fresh vs hA hn hcp hs h1 hm hb fun A' cap' hn => hF _ A' cap' _ (kk A' cap' hn)
  | keep i g xs vs hA hi hs h1 h0 hm hb k1 k2 => exact .keep i g xs vs hA hi hs h1 h0 hm hb (fun hr => hL' i xs _ A cap _ hi (k1 hr)) (fun hr g' cap' hc => hF _ (some g') cap' _ (k2 hr g' cap' hc))

theorem exec_appN {N0 : Nat} {o : Oper} {t el s b : Nat} {zs : List Value} {x y : Operand} (hop : o.op = .call { callee := .builtin .append, args := #[x, y], argTypes := #[t, t] }) (hu : P.underlying t = some (.slice el)) (he : elemOk P el = some (s, b, zs))
    {K : KT} {next : Act → World → Prop} {Q : Exit → Act → World → Prop} (ho : Out h0 w0 n (fun β' => ∀ i, refOk L i → β' i = β i) (fun e' L' h' => K e' L' h' ∧ (∀ i l, i < N0 → nth L i = some l → l.isRow = false → nth L' i = some l) ∧ h' = h) next)
    (m : Mem h0 w0 β L h w) (r : Rel n β L e a) (hL : OkL L) (hap : okApp N0 e (.appendN t el s b zs (lowArg x) (lowArg y)) = true) (hp : wpK P n (.appendN t el s b zs (lowArg x) (lowArg y)) o.dst e L h K) : o.wp P a w next Q := by
  obtain ⟨i, z, hi, hz, e1, e2, e3, e4, e5⟩ := elemOk_spec he
  have hx := r.eval x
  have hy := r.eval y
  -- what an append leaves of the entries
  have keepSet : ∀ (L1 : List LE) (j : Nat) (l' : LE), (∀ l, nth L1 j = some l → l.isRow = true) → (∀ i l, i < N0 → nth L i = some l → l.isRow = false → nth L1 i = some l) → ∀ i l, i < N0 → nth L i = some l → l.isRow = false → nth (setn L1 j l') i = some l := by
    intro L1 j l' hj hkeep i l hiN hl hr
    have h1 := hkeep i l hiN hl hr
    by_cases hij : i = j
    · subst hij; rw [hj l h1] at hr; cases hr
    · rw [nth_eq, setn_eq, List.getElem?_set_ne (Ne.symm hij), ← nth_eq]; exact h1
  have keepSnoc : ∀ (L1 : List LE) (l' : LE), (∀ i l, i < N0 → nth L i = some l → l.isRow = false → nth L1 i = some l) → ∀ i l, i < N0 → nth L i = some l → l.isRow = false → nth (L1 ++ [l']) i = some l := by
    intro L1 l' hkeep i l hiN hl hr
    have h1 := hkeep i l hiN hl hr
    rw [nth_snoc, if_pos (nth_lt h1)]; exact h1
  have fin : ∀ (β1 : Nat → Nat) (L1 : List LE) (A B : Option Addr) (k cap q c : Nat) (S : List Value → Prop), (∀ j, refOk L j → β1 j = β j) → (∀ i, refOk L i → refOk L1 i) → (∀ i l, i < N0 → nth L i = some l → l.isRow = false → nth L1 i = some l) → Mem h0 w0 β1 L1 h w → Rel n β1 L1 e a → OkL L1 → a.eval x = .slice A k cap → a.eval y = .slice B q c →
      (∀ vs, S vs → SrcW w s B q vs) → EvAppend el s b A k cap q S L1 (fun x L => putS n o.dst x e L h K) → o.wp P a w next Q := by
    intro β1 L1 A B k cap q c S hβ1 href1 hkeep m1 r1 hL1 hxA hyB hS hev
    have hev' : EvAppend el s b A k cap q S L1 (fun x L' => putS n o.dst x e L' h fun e' L' h' => K e' L' h' ∧ (∀ i l, i < N0 → nth L i = some l → l.isRow = false → nth L' i = some l) ∧ h' = h) :=
      evapp_mono (fun i xs k' A' cap' ys hi hh => putS_and (R := fun L' h' => (∀ i l, i < N0 → nth L i = some l → l.isRow = false → nth L' i = some l) ∧ h' = h) ⟨keepSet L1 i _ (fun l hl => by rw [hi] at hl; injection hl with hl; subst hl; rfl) hkeep, rfl⟩ hh)
        (fun k' A' cap' ys hh => putS_and (R := fun L' h' => (∀ i l, i < N0 → nth L i = some l → l.isRow = false → nth L' i = some l) ∧ h' = h) ⟨keepSnoc L1 _ hkeep, rfl⟩ hh) hev
    obtain ⟨A', cap', n', β', L', w', hrun, hK, m', hL', href, hβ'⟩ := evapp_sound (P := P) (ty := o.type) (c := c) hu hi hz e1 e2 e3 e4 m1 hL1 hS hev'
    refine wp_value (v := .slice A' n' cap') (w' := w') (by simp [execOp, hop, resolve, invoke, builtin, hxA, hyB, hrun]) ?_
    exact putS_sound ho (fun j hj => (hβ' j (href1 j hj)).trans (hβ1 j hj)) m' (r1.agree hβ' href) hL' (x := .v _) trivial hK
  have app : ∀ (β1 : Nat → Nat) (L1 : List LE) (A : Option Addr) (k cap : Nat), (∀ j, refOk L j → β1 j = β j) → (∀ i, refOk L i → refOk L1 i) → (∀ i l, i < N0 → nth L i = some l → l.isRow = false → nth L1 i = some l) → Mem h0 w0 β1 L1 h w → Rel n β1 L1 e a → OkL L1 → a.eval x = .slice A k cap → a.eval y = ((lowArg y).get e).c β1 →
      wpAppN n el s b A k cap ((lowArg y).get e) o.dst e L1 h K → o.wp P a w next Q := by
    intro β1 L1 A k cap hβ1 href1 hkeep m1 r1 hL1 hxA hyy hw
    unfold wpAppN at hw
    split at hw
    · rename_i B q c hq
      exact fin β1 L1 A B k cap q c _ hβ1 href1 hkeep m1 r1 hL1 hxA (by rw [hyy, hq]; rfl) (fun vs hs => src_w m1.see hs) hw
    · rename_i j off q c hq
      split at hw
      · rename_i cs ty hj
        split at hw
        · rename_i rr hsub
          split at hw
          · rename_i vs hvs
            obtain ⟨hs1, hs2⟩ := sub_eq _ _ _ _ hsub
            have hc := raws_c m1.see rr vs hvs
            have hsrc : SrcW w s (some ⟨β1 j, off, none⟩) q vs := by
              refine ⟨by rw [← hc]; simp [hs2], .inr ⟨_, rfl, fun p v ev => ?_⟩⟩
              rw [← hc, List.getElem?_map, Option.map_eq_some_iff] at ev
              obtain ⟨u, hu', rfl⟩ := ev
              rw [add_lit]
              refine sees_cell m1.see hj ?_
              rw [hs1, List.getElem?_take] at hu'
              split at hu'
              · simpa [List.getElem?_drop] using hu'
              · cases hu'
            exact fin β1 L1 A _ k cap q c _ hβ1 href1 hkeep m1 r1 hL1 hxA (by rw [hyy, hq]; rfl) (fun vs' hs => by rw [show vs' = vs from hs]; exact hsrc) hw
          · exact hw.elim
        · exact hw.elim
      · exact hw.elim
    · exact hw.elim
  simp only [wpK] at hp
  split at hp
  · rename_i A k cap hq
    exact app β L A k cap (fun _ _ => rfl) (fun _ => id) (fun _ _ _ hl _ => hl) m r hL (by rw [hx, hq]; rfl) hy hp
  · rename_i l k cap hq
    split at hp
    · rename_i cs ty hj
      cases hb : (Nat.beq cs.length (cap * s) && Nat.ble k cap && Nat.beq ty el && Nat.ble cap 9223372036854775807) with
      | false => rw [hb] at hp; exact hp.elim
      | true =>
        rw [hb] at hp
        simp only [Bool.and_eq_true] at hb
        obtain ⟨⟨⟨hb1, hb2⟩, hb3⟩, hb4⟩ := hb
        have hb1 := Nat.eq_of_beq_eq_true hb1
        have hb2 := Nat.le_of_ble_eq_true hb2
        have hb3 := Nat.eq_of_beq_eq_true hb3
        have hb4 := Nat.le_of_ble_eq_true hb4
        subst hb3
        simp only [cond_true] at hp
        split at hp
        · rename_i vs hvs
          obtain ⟨kk⟩ := hp
          have hhole := m.hole l _ hj rfl
          have hk2 := kk (β l) hhole
          have hcs := raws_c m.see cs vs hvs
          have hobj := m.see.see l _ hj
          simp only [LE.sees, hcs] at hobj
          obtain ⟨m1, ref1⟩ := m.give (l' := .gone) hj rfl rfl rfl trivial hobj
          have hL1 := hL.setOther (nth_lt hj) ref1 (fun _ _ e => by cases e)
          have hlen : vs.length = cap * s := by rw [← hcs]; simp [hb1]
          have hle : k * s ≤ cap * s := Nat.mul_le_mul_right s hb2
          have hrow : RowAt (h.put (β l) (.cells vs.toArray ty (0, 0))) ty s (some ⟨β l, 0, none⟩) k cap (vs.take (k * s)) :=
            ⟨by rw [List.length_take, hlen]; omega, .inr ⟨β l, vs.toArray, rfl, Hp.put_same _ _ _, hb2, by simpa [maxLen] using hb4, by simpa using hlen, rfl⟩⟩
          obtain ⟨β2, L2, h2, ⟨rfl, rfl⟩, m2, hL2, ref2, hβ2⟩ := shift_sound (K := fun L2 h2 => L2 = setn L l .gone ++ [.row ty s (some ⟨β l, 0, none⟩) k cap (vs.take (k * s))] ∧ h2 = delA (h.put (β l) (.cells vs.toArray ty (0, 0))) (some ⟨β l, 0, none⟩))
            (.abs ty s (some ⟨β l, 0, none⟩) k cap (vs.take (k * s)) hrow (.done ⟨rfl, rfl⟩)) β m1 hL1
          have hdel : delA (h.put (β l) (.cells vs.toArray ty (0, 0))) (some ⟨β l, 0, none⟩) = h := by
            funext j
            simp only [delA, Hp.del, Hp.put]
            by_cases e : j = β l
            · rw [if_pos e, e, hhole]
            · rw [if_neg e, if_neg e]
          rw [hdel] at m2
          have r2 := (r.agree (fun _ _ => rfl) ref1).agree hβ2 ref2
          have hN : N0 ≤ l := by
            simp only [okApp, hq] at hap
            exact Nat.le_of_ble_eq_true hap
          refine app β2 _ _ k cap (fun j hj => hβ2 j (ref1 j hj)) (fun j hj => ref2 j (ref1 j hj)) (keepSnoc _ _ fun i l' hiN hl hr => ?_) m2 r2 hL2 (by rw [hx, hq]; rfl) (r2.eval y) hk2
          rw [nth_setn _ _ _ _ (nth_lt hj), if_neg (by omega)]; exact hl
        · exact hp.elim
    · exact hp.elim
  · exact hp.elim

theorem wpI_sound_app {N0 : Nat} {ops : Array Oper} {o : Oper} {K : KT} {next : Act → World → Prop} {Q : Exit → Act → World → Prop}
    (ho : Out h0 w0 n (fun β' => ∀ i, refOk L i → β' i = β i) (fun e' L' h' => K e' L' h' ∧ (∀ i l, i < N0 → nth L i = some l → l.isRow = false → nth L' i = some l) ∧ h' = h) next) (hk : isApp (lowKind P o.op) = true) (hap : okApp N0 e (calmOp (lowOp P ops o)).k = true)
    (m : Mem h0 w0 β L h w) (r : Rel n β L e a) (hL : OkL L) (hp : wpI P n (calmOp (lowOp P ops o)) e L h K) :
    if Region.wanted o (yielded ops a.tmps) then o.wp P a w next Q else next (a.put o.dst undef) w := by
  have hap' : okApp N0 e (calm (lowKind P o.op)) = true := by
    unfold lowOp at hap hp
    split at hap
    · exact hap
    · rename_i hg; rw [hg] at hp; exact hp.elim
  refine guarded r hp ?_ (fun hs => putS_sound ho (fun _ _ => rfl) m r hL (x := .v undef) trivial (putS_and (R := fun L' h' => (∀ i l, i < N0 → nth L i = some l → l.isRow = false → nth L' i = some l) ∧ h' = h) ⟨fun _ _ _ hl _ => hl, rfl⟩ hs))
  rintro e' rfl hw
  cases hop : o.op with
  | call c =>
    rw [hop] at hw hk hap'
    obtain ⟨cal, args, tys⟩ := c
    cases cal with
    | value f => cases f <;> cases hk
    | invoke x y => cases hk
    | builtin bb =>
      cases bb with
      | append =>
        simp only [lowKind] at hw hk hap'
        split at hw
        · rename_i x y t t' hargs htys
          split at hw
          · rename_i el hu
            split at hw
            · rename_i s bb zs hel
              split at hw
              · rename_i htt
                subst htt
                have e1 : args = #[x, y] := by rw [← Array.toArray_toList (xs := args), hargs]
                have e2 : tys = #[t, t] := by rw [← Array.toArray_toList (xs := tys), htys]
                subst e1; subst e2
                refine exec_appN (N0 := N0) hop hu hel ho m r hL ?_ hw
                simpa [hu, hel, calm] using hap'
              · exact hw.elim
            · exact hw.elim
          · exact hw.elim
        · exact hw.elim
      | _ => simp only [lowKind] at hk; (repeat' split at hk) <;> cases hk
  | makeFunc fn first caps => rw [hop] at hk; cases fn <;> simp only [lowKind] at hk <;> (repeat' split at hk) <;> cases hk
  | binOp op t x y t' => rw [hop] at hk; cases op <;> simp only [lowKind, lowEq] at hk <;> (repeat' split at hk) <;> cases hk
  | unOp op t x => rw [hop] at hk; cases op <;> simp only [lowKind] at hk <;> (repeat' split at hk) <;> cases hk
  | makeMap t r => rw [hop] at hk; cases r <;> cases hk
  | move x => rw [hop] at hk; cases hk
  | assign x => rw [hop] at hk; cases hk
  | pick c x y => rw [hop] at hk; cases hk
  | ready g => rw [hop] at hk; cases hk
  | waits g => rw [hop] at hk; cases hk
  | nilCheck x => rw [hop] at hk; cases hk
  | insert t m k v => rw [hop] at hk; cases hk
  | convert s d x => rw [hop] at hk; simp only [lowKind] at hk; (repeat' split at hk) <;> cases hk
  | sliceToArrayPointer t x => rw [hop] at hk; cases hk
  | makeInterface t x => rw [hop] at hk; cases hk
  | makeChan t x => rw [hop] at hk; cases hk
  | index t x i => rw [hop] at hk; cases hk
  | mapEntry t m k => rw [hop] at hk; cases hk
  | entryStore t m s v => rw [hop] at hk; cases hk
  | range t x => rw [hop] at hk; simp only [lowKind] at hk; (repeat' split at hk) <;> cases hk
  | next x b => rw [hop] at hk; simp only [lowKind] at hk; (repeat' split at hk) <;> cases hk
  | entry x => rw [hop] at hk; cases hk
  | typeAssert x t s b => rw [hop] at hk; cases hk
  | extract x i => rw [hop] at hk; cases hk
  | go c => rw [hop] at hk; cases hk
  | defer c => rw [hop] at hk; cases hk
  | panic x => rw [hop] at hk; cases hk
  | send c x => rw [hop] at hk; cases hk
  | recv t c b => rw [hop] at hk; cases hk
  | select cs b => rw [hop] at hk; cases hk
  | box t x => rw [hop] at hk; cases hk
  | alloc t => rw [hop] at hk; simp only [lowKind] at hk; (repeat' split at hk) <;> cases hk
  | buildSlice t len ps => rw [hop] at hk; simp only [lowKind] at hk; (repeat' split at hk) <;> cases hk
  | build t ps => rw [hop] at hk; simp only [lowKind] at hk; (repeat' split at hk) <;> cases hk
  | load t x => rw [hop] at hk; simp only [lowKind] at hk; (repeat' split at hk) <;> cases hk
  | store t x y => rw [hop] at hk; simp only [lowKind] at hk; (repeat' split at hk) <;> cases hk
  | fieldAddr t x i => rw [hop] at hk; simp only [lowKind] at hk; (repeat' split at hk) <;> cases hk
  | indexAddr t x i => rw [hop] at hk; simp only [lowKind] at hk; (repeat' split at hk) <;> cases hk
  | makeSlice t x y => rw [hop] at hk; simp only [lowKind] at hk; (repeat' split at hk) <;> cases hk
  | slice t x lo hi mx => rw [hop] at hk; simp only [lowKind] at hk; (repeat' split at hk) <;> cases hk
  | field t x i => rw [hop] at hk; simp only [lowKind] at hk; (repeat' split at hk) <;> cases hk
  | lookup t x k b => rw [hop] at hk; simp only [lowKind] at hk; (repeat' split at hk) <;> cases hk
  | mapUpdate t m k v => rw [hop] at hk; simp only [lowKind] at hk; (repeat' split at hk) <;> cases hk

theorem sim_end {sf : List Nat} {N0 : Nat} {ops : Array Oper} {K : KT} {Q : Exit → Act → World → Prop} (ok : OddOk P ops) (hQ : Out h0 w0 n Any K (Q .normal)) {listed : Array Bool} {E : List (Nat × Value)} {done : List Nat} {t : Todo} {f : Nat}
    (S : Sim P sf h0 w0 n N0 ops listed a w E done e L h β) (ht : TodoOk P sf ops done t) (hp : wpOddF P n N0 f done t e L h K) (hr : Region.ready .any ops listed = []) : Q .normal a w := by
  have hall := all_listed ok S.size hr
  have hE : E = [] := by
    cases E with
    | nil => rfl
    | cons x E =>
      obtain ⟨i1, i2, oj, d, i3, _⟩ := S.info x.1 x.2 (List.mem_cons_self ..)
      have := hall x.1 (Array.getElem?_eq_some_iff.1 i3).1
      rw [i2] at this; cases this
  have htn : t = [] := by
    cases t with
    | nil => rfl
    | cons x r =>
      obtain ⟨h1, oi, hi, _⟩ := (ht.2 x.1 x.2).1 (List.mem_cons_self ..)
      exact absurd (S.sub _ (hall x.1 (Array.getElem?_eq_some_iff.1 hi).1)) h1
  subst hE; subst htn
  have hK : K e L h := by cases f <;> exact hp
  exact hQ β e L h a w trivial S.mem S.rel S.okl hK

theorem odd_wpI {sf : List Nat} {ops : Array Oper} {b : Array Nat} {i : Nat} {o : Oper} {K : KT} (hp : wpI P n (oddOp P sf ops b i o) e L h K) : wpI P n (lowOp P ops o) e L h K := by
  unfold oddOp at hp
  split at hp
  · exact hp
  · split at hp
    · exact free_wpI hp
    · exact calm_wpI hp
theorem sim_sound {sf : List Nat} {N0 : Nat} {ops : Array Oper} {K : KT} {Q : Exit → Act → World → Prop} (ok : OddOk P ops) (hQ : Out h0 w0 n Any K (Q .normal)) : ∀ (fuel : Nat) (listed : Array Bool) (a : Act) (w : World) (E : List (Nat × Value)) (done : List Nat) (t : Todo) (f : Nat) (e : Env) (L : List LE) (h : Hp) (β : Nat → Nat),
    Sim P sf h0 w0 n N0 ops listed a w E done e L h β → TodoOk P sf ops done t → wpOddF P n N0 f done t e L h K → (∃ U : List Nat, U.length ≤ fuel ∧ ∀ j, j < ops.size → listed.getD j false = false → j ∈ U) → wpAny P .any ops Q fuel listed a w := by
  intro fuel
  induction fuel with
  | zero =>
    intro listed a w E done t f e L h β S ht hp ⟨U, hU, hUm⟩
    have hnil : U = [] := List.eq_nil_of_length_eq_zero (by omega)
    subst hnil
    have hr : Region.ready .any ops listed = [] := by
      cases hr : Region.ready .any ops listed with
      | nil => rfl
      | cons x l =>
        have hx : x ∈ Region.ready .any ops listed := by rw [hr]; exact List.mem_cons_self ..
        obtain ⟨h1, ox, h2, _⟩ := mem_ready.1 hx
        have := hUm x (Array.getElem?_eq_some_iff.1 h2).1 (getD_tf h1)
        cases this
    exact ⟨hr, sim_end ok hQ S ht hp hr⟩
  | succ fuel ih =>
    intro listed a w E0 done0 t0 f0 e0 L h β S0 ht0 hp0 ⟨U, hU, hUm⟩
    refine ⟨fun hr => sim_end ok hQ S0 ht0 hp0 hr, fun i hi => ?_⟩
    obtain ⟨f, done, t, E, e, S, ht, hp, hnone⟩ := S0.saturate ok f0 done0 t0 E0 e0 ht0 hp0
    obtain ⟨hun, oi, hoi, hpre⟩ := mem_ready.1 hi
    have hlt : i < ops.size := (Array.getElem?_eq_some_iff.1 hoi).1
    have hls : i < listed.size := by rw [S.size]; exact hlt
    have hunf := getD_tf hun
    have hU' : ∃ U' : List Nat, U'.length ≤ fuel ∧ ∀ j, j < ops.size → (listed.setIfInBounds i true).getD j false = false → j ∈ U' := by
      have hiU := hUm i hlt hunf
      refine ⟨U.erase i, by rw [List.length_erase_of_mem hiU]; omega, fun j hj hl => ?_⟩
      have hji : j ≠ i := fun e => by subst e; rw [(getD_set_iff hls).2 (.inl rfl)] at hl; cases hl
      rw [getD_set_ne false (Ne.symm hji)] at hl
      exact (List.mem_erase_of_ne hji).2 (hUm j hj hl)
    -- what comes before i has come
    have hbefore : ∀ k, k ≠ i → Pre ops k i → listed.getD k false = true := fun k hk hpr => by
      have hc : Closed ops fun j => listed.getD j false = true ∨ j = i := by
        intro j oj hj hl x hx hb
        rcases hl with hl | rfl
        · exact .inl (S.closed j oj hj hl x hx hb)
        · rw [hoi] at hj; injection hj with hj; subst hj
          exact .inl (hpre x hx hb)
      rcases hpr _ hc (.inr rfl) with hh | hh
      · exact hh
      · exact absurd hh hk
    -- the pending ones do not touch what i looks at
    have hlook : ∀ x ∈ E, ∀ t, dstOf ops x.1 = some t → t ∉ oi.looksAt ops := by
      intro x hx t ht hm
      obtain ⟨i1, i2, oj, d, i3, i4, i5, _⟩ := S.info x.1 x.2 hx
      rw [dst_of i3, i4] at ht
      injection ht with ht; subst ht
      by_cases hxi : x.1 = i
      · rw [hxi, hoi] at i3; injection i3 with i3; subst i3
        obtain ⟨d', q1, q2⟩ := ok.dst i oi hoi i5
        rw [i4] at q1; injection q1 with q1; subst q1
        exact q2 hm
      · rcases ok.A i x.1 oi oj (Ne.symm hxi) hoi i3 d i4 hm with hpr | ⟨hnv, _⟩
        · rw [hbefore x.1 hxi hpr] at i2; cases i2
        · rw [i5] at hnv; cases hnv
    obtain ⟨ex1, ex2⟩ := puts_exec (ops := ops) (fun cs b => ok.nosel i oi cs b hoi) a E hlook
    unfold wpOp
    rw [hoi]
    simp only
    by_cases hid : i ∈ done
    · -- it has been taken ahead
      rcases S.pend i hid with hh | ⟨v, hv⟩
      · rw [hunf] at hh; cases hh
      obtain ⟨E1, E2, rfl⟩ := List.append_of_mem hv
      obtain ⟨i1, i2, oj, d, i3, i4, i5, C, i6, i7⟩ := S.info i v hv
      rw [hoi] at i3; injection i3 with i3; subst i3
      have hnow := i7 w fun hm => i6 hm w (see_mk S.mem.see)
      have hne : ∀ x ∈ E1 ++ E2, x.1 ≠ i := fun x hx => by
        have hn := S.nodup
        rw [List.map_append, List.map_cons] at hn
        have := (nodup_mid hn).1
        intro e
        have hm : x.1 ∈ (E1 ++ E2).map (·.1) := List.mem_map_of_mem hx
        rw [e, List.map_append] at hm
        exact this hm
      have hmid : puts ops (E1 ++ (i, v) :: E2) a = puts ops (E1 ++ E2) (a.put oi.dst v) := by
        rw [← dst_of hoi]
        refine puts_mid i v a E2 (fun x hx t ht hx2 => ?_) E1
        obtain ⟨k1, k2, ok', d', k3, k4, k5, _⟩ := S.info x.1 x.2 (List.mem_append_right _ (List.mem_cons_of_mem _ hx))
        rw [dst_of hoi] at ht
        rw [dst_of k3] at hx2
        rcases ok.B i x.1 oi ok' (Ne.symm (hne x (List.mem_append_right _ hx))) hoi k3 t hx2 ht with hh | hh
        · rw [k5] at hh; cases hh.1
        · rw [i5] at hh; cases hh.1
      have S' : Sim P sf h0 w0 n N0 ops (listed.setIfInBounds i true) (a.put oi.dst v) w (E1 ++ E2) done e L h β := by
        refine ⟨by simp [S.size], S.closed.set hi hls, S.dclosed, fun j hj => ?_, fun j hj => ?_, S.dlt, ?_, fun j u hj => ?_, S.mem, by rw [← hmid]; exact S.rel, S.okl⟩
        · rcases (getD_set_iff hls).1 hj with rfl | hj
          · exact hid
          · exact S.sub j hj
        · by_cases hji : j = i
          · exact .inl ((getD_set_iff hls).2 (.inl hji))
          · rcases S.pend j hj with hh | ⟨u, hu⟩
            · exact .inl ((getD_set_iff hls).2 (.inr hh))
            · refine .inr ⟨u, ?_⟩
              rcases List.mem_append.1 hu with hu | hu
              · exact List.mem_append_left _ hu
              · rcases List.mem_cons.1 hu with hu | hu
                · injection hu with hu _; exact absurd hu hji
                · exact List.mem_append_right _ hu
        · have hn := S.nodup
          rw [List.map_append, List.map_cons] at hn
          rw [List.map_append]
          exact (nodup_mid hn).2
        · have hj' : (j, u) ∈ E1 ++ (i, v) :: E2 := by
            rcases List.mem_append.1 hj with hj | hj
            · exact List.mem_append_left _ hj
            · exact List.mem_append_right _ (List.mem_cons_of_mem _ hj)
          obtain ⟨k1, k2, ok', d', k3, k4, k5, C, k6, k7⟩ := S.info j u hj'
          refine ⟨k1, ?_, ok', d', k3, k4, k5, C, k6, fun w' hw' => by rw [← hmid]; exact k7 w' hw'⟩
          rw [getD_set_ne false (Ne.symm (hne _ hj))]; exact k2
      have hnext := ih _ _ w _ done t f e L h β S' ht hp hU'
      unfold Now at hnow
      rw [ex1, ex2] at hnow
      rcases hnow with ⟨hw, hrun⟩ | ⟨hw, hv⟩
      · rw [hw]
        exact .inl (wp_value hrun hnext)
      · rw [hw]
        subst hv
        exact hnext
    · -- it comes now, in the walk too
      have hit : ∃ o, (i, o) ∈ t ∧ o = ({ o := oddOp P sf ops (Region.before ops) i oi, after := (oi.after.toList.filter (Region.binds .any)).map (·.on), m := mflag P sf ops (Region.before ops) i } : OOp) := ⟨_, (ht.2 i _).2 ⟨hid, oi, hoi, rfl⟩, rfl⟩
      obtain ⟨o, hot, rfl⟩ := hit
      have hrdy := (rdy_of (done := done) (oi := oi)).2 fun x hx hb => S.sub _ (hpre x hx hb)
      have hnotV : isV (lowOp P ops oi).k = false := by
        cases hv : isV (lowOp P ops oi).k with
        | false => rfl
        | true => exact (pickV_none hnone _ hot (by show isV (oddOp P sf ops (Region.before ops) i oi).k = true; rw [oddOp_isV]; exact hv) hrdy).elim
      obtain ⟨r, hr1, hr2, hr3⟩ := pickW_mem (pre := []) (by simpa using ht.1) i _ hot hrdy
      obtain ⟨f', hwp, happ⟩ : ∃ f', (wpI P n (oddOp P sf ops (Region.before ops) i oi) e L h fun e L h => wpOddF P n N0 f' (i :: done) r e L h K) ∧ okApp N0 e (oddOp P sf ops (Region.before ops) i oi).k = true := by
        cases t with
        | nil => cases hot
        | cons x l =>
          cases f with
          | zero => exact hp.elim
          | succ f =>
            simp only [wpOddF, hnone] at hp
            have hq := allP_mem hp _ hr1
            simp only at hq
            cases hb : okApp N0 e (oddOp P sf ops (Region.before ops) i oi).k with
            | false => rw [hb] at hq; exact hq.elim
            | true => rw [hb] at hq; exact ⟨f, hq, rfl⟩
      have ht' : TodoOk P sf ops (i :: done) r := ht.step hr2 (by simpa using hr3)
      have hdsts : ∀ x ∈ E, ∀ t, oi.dst = some t → dstOf ops x.1 ≠ some t := by
        intro x hx t ht hx2
        obtain ⟨k1, k2, ok', d', k3, k4, k5, _⟩ := S.info x.1 x.2 hx
        have hxi : x.1 ≠ i := fun e => hid (by rw [← e]; exact k1)
        rw [dst_of k3] at hx2
        rcases ok.B x.1 i ok' oi hxi k3 hoi t ht hx2 with ⟨_, hh⟩ | ⟨hh, _⟩
        · rw [hbefore x.1 hxi hh] at k2; cases k2
        · rw [k5] at hh; cases hh
      have hdef : a.defers = [] := by have := S.rel.defers; rwa [puts_def] at this
      -- the step of the walk's state
      have step : ∀ (K' : KT) (C : (Nat → Nat) → Prop), (∀ e' L' h', K' e' L' h' → wpOddF P n N0 f' (i :: done) r e' L' h' K) →
          (∀ β' e' L' h', C β' → K' e' L' h' → ∀ j u, (j, u) ∈ E → ∀ oj, ops[j]? = some oj → isMem (lowKind P oj.op) = true → listed.getD j false = false → j ∈ done → ∀ w', See β' (mskIf (mflag P sf ops (Region.before ops) j) N0 L') (mskH (mflag P sf ops (Region.before ops) j) h') w' → See β (mskIf (mflag P sf ops (Region.before ops) j) N0 L) (mskH (mflag P sf ops (Region.before ops) j) h) w') →
          (∀ (next' : Act → World → Prop), Out h0 w0 n C K' next' → if Region.wanted oi (yielded ops (puts ops E a).tmps) then oi.wp P (puts ops E a) w next' (fun _ _ _ => False) else next' ((puts ops E a).put oi.dst undef) w) →
          if Region.wanted oi (yielded ops a.tmps) then oi.wp P a w (wpAny P .any ops Q fuel (listed.setIfInBounds i true)) Q ∨ (oi.asks P a w ∧ LetsOut Q) else wpAny P .any ops Q fuel (listed.setIfInBounds i true) (a.put oi.dst undef) w := by
        intro K' C hK' hdom hrun
        have hout : Out h0 w0 n C K' fun ac' w' => ∀ (a' : Act) (v : Value), a'.tmps = a.tmps → puts ops E (a'.put oi.dst v) = ac' → wpAny P .any ops Q fuel (listed.setIfInBounds i true) (a'.put oi.dst v) w' := by
          rintro β' e' L' h' ac' w' hC m' r' hL' hk' a' v htm rfl
          have ha' : a' = a := by
            have h1 := r'.defers
            rw [puts_def] at h1
            have h2 : a'.defers = [] := by
              cases hd : oi.dst <;> rw [hd] at h1 <;> exact h1
            cases a'; cases a
            simp_all
          subst ha'
          have hput := puts_put (ops := ops) oi.dst v a' E hdsts
          refine ih _ _ w' E (i :: done) r f' e' L' h' β' ⟨by simp [S.size], S.closed.set hi hls, ?_, fun j hj => ?_, fun j hj => ?_, fun j hj => ?_, S.nodup, fun j u hj => ?_, m', r', hL'⟩ ht' (hK' _ _ _ hk') hU'
          · intro j oj hj hjd x hx hb
            rcases List.mem_cons.1 hjd with rfl | hjd
            · rw [hoi] at hj; injection hj with hj; subst hj
              exact List.mem_cons_of_mem _ (S.sub _ (hpre x hx hb))
            · exact List.mem_cons_of_mem _ (S.dclosed j oj hj hjd x hx hb)
          · rcases (getD_set_iff hls).1 hj with rfl | hj
            · exact List.mem_cons_self ..
            · exact List.mem_cons_of_mem _ (S.sub j hj)
          · rcases List.mem_cons.1 hj with rfl | hj
            · exact .inl ((getD_set_iff hls).2 (.inl rfl))
            · rcases S.pend j hj with hh | hh
              · exact .inl ((getD_set_iff hls).2 (.inr hh))
              · exact .inr hh
          · rcases List.mem_cons.1 hj with rfl | hj
            · exact hlt
            · exact S.dlt j hj
          · obtain ⟨k1, k2, ok', d', k3, k4, k5, C2, k6, k7⟩ := S.info j u hj
            have hji : j ≠ i := fun e => hid (by rw [← e]; exact k1)
            refine ⟨List.mem_cons_of_mem _ k1, by rw [getD_set_ne false (Ne.symm hji)]; exact k2, ok', d', k3, k4, k5, C2, fun hm w' hs => k6 hm w' (hdom β' e' L' h' hC hk' j u hj ok' k3 hm k2 k1 w' hs), fun w' hw' => ?_⟩
            have hnow := k7 w' hw'
            have hnot : ∀ t, oi.dst = some t → t ∉ ok'.looksAt ops := by
              intro t ht hm
              rcases ok.A j i ok' oi hji k3 hoi t ht hm with hpr | ⟨_, hpr⟩
              · exact hid (hpr _ S.dclosed k1)
              · rw [hbefore j hji hpr] at k2; cases k2
            unfold Now at hnow ⊢
            rw [hput, execOp_put (ops := ops) ok' (fun cs b => ok.nosel j ok' cs b k3) _ _ _ hnot, wanted_put (ops := ops) ok' _ _ _ hnot]
            exact hnow
        have hgo := hrun _ hout
        rw [ex2] at hgo
        split
        · rename_i hw
          rw [if_pos hw] at hgo
          exact .inl (wp_puts ex1 hdsts (fun v a1 w1 htm hh => hh a1 v htm rfl) hgo)
        · rename_i hw
          rw [if_neg hw] at hgo
          exact hgo a undef rfl (puts_put _ _ _ _ hdsts)
      have hnv : isV (lowKind P oi.op) = false ∨ False := by
        unfold lowOp at hnotV
        split at hnotV
        · exact .inl hnotV
        · rename_i hg
          have hwp := odd_wpI hwp
          unfold lowOp at hwp
          rw [hg] at hwp
          exact hwp.elim
      have hnv := hnv.resolve_right id
      cases hnew : isNew (lowKind P oi.op) with
      | true =>
        have hwp' : wpI P n (lowOp P ops oi) e L h fun e L h => wpOddF P n N0 f' (i :: done) r e L h K := odd_wpI hwp
        refine step _ (fun β' => ∀ i, i < L.length → β' i = β i) (fun e' L' h' hk' => hk'.1) ?_ (fun next' ho => wpI_sound_new (fun _ hh => hh) ho hnew S.mem S.rel S.okl (wpI_new hnew hwp'))
        rintro β' e' L' h' hβ ⟨_, hl, rfl⟩ j u hj oj hoj hm hl1 hl2 w'
        have hnth : ∀ q l, nth L q = some l → nth L' q = some l := fun q l hq => by
          rcases hl with rfl | ⟨x, rfl⟩
          · exact hq
          · rw [nth_snoc, if_pos (nth_lt hq)]; exact hq
        have hsee : ∀ q l, nth L q = some l → l.sees β' q w' → l.sees β q w' := fun q l hq hs => by
          have hb := hβ q (nth_lt hq)
          cases l with
          | own cs ty => simp only [LE.sees] at hs ⊢; rw [← hb, ← cs_agree (S.okl q cs ty hq) (fun i hi => hβ i (refOk_lt hi))]; exact hs
          | pub b => simp only [LE.sees] at hs ⊢; rw [← hb]; exact hs
          | row => simp only [LE.sees] at hs ⊢; rw [← hb]; exact hs
          | map => simp only [LE.sees] at hs ⊢; rw [← hb]; exact hs
          | gone => trivial
        cases mflag P sf ops (Region.before ops) j with
        | false => exact fun s => ⟨s.hw, fun q l hq => hsee q l hq (s.see q l (hnth q l hq))⟩
        | true =>
          intro s
          obtain ⟨s1, s2⟩ := see_msk_iff.1 s
          exact see_msk_iff.2 ⟨s1, fun q l hqN hq hr => hsee q l hq (s2 q l hqN (hnth q l hq) hr)⟩
      | false =>
        have other : (isApp (lowKind P oi.op) = false) → (isCall (lowKind P oi.op) = false) → ∀ j u, (j, u) ∈ E → ∀ oj, ops[j]? = some oj → isMem (lowKind P oj.op) = true → False := by
          intro ha hc j u hj oj hoj hm
          obtain ⟨k1, k2, _⟩ := S.info j u hj
          have hji : j ≠ i := fun e => hid (by rw [← e]; exact k1)
          rcases ok.C j i oj oi hji hoj hoi hm with hh | hh | hh | hh | hh | hh
          · rw [hnv] at hh; cases hh
          · rw [hnew] at hh; cases hh
          · rw [ha] at hh; cases hh
          · rw [hc] at hh; cases hh
          · rw [hbefore j hji hh] at k2; cases k2
          · exact hid (hh _ S.dclosed k1)
        cases hal : alone P sf ops (Region.before ops) i oi with
        | true =>
          refine step _ Any (fun e' L' h' hk' => hk') ?_ (fun next' ho => wpI_sound ho S.mem S.rel S.okl (odd_wpI hwp))
          intro β' e' L' h' _ _ j u hj oj hoj hm hl1 hl2
          obtain ⟨k1, k2, _⟩ := S.info j u hj
          have hji : j ≠ i := fun e => hid (by rw [← e]; exact k1)
          unfold alone at hal
          simp only [Bool.and_eq_true, List.all_eq_true, List.mem_range, Bool.or_eq_true, beq_iff_eq] at hal
          rcases hal.2 j (Array.getElem?_eq_some_iff.1 hoj).1 with hh | hh
          · exact absurd hh.symm hji
          · rw [hoj] at hh
            simp only [hm, Bool.not_true, Bool.false_eq_true, false_or, Bool.or_eq_true] at hh
            rcases hh with hh | hh
            · exact absurd (before_spec ops hh _ S.dclosed k1) hid
            · rw [hbefore j hji (before_spec ops hh)] at k2; cases k2
        | false =>
        have flagOf : (isApp (lowKind P oi.op) || freeCall P sf oi) = true → ∀ j u, (j, u) ∈ E → mflag P sf ops (Region.before ops) j = true := by
          intro hx j u hj
          obtain ⟨k1, k2, _⟩ := S.info j u hj
          have hji : j ≠ i := fun e => hid (by rw [← e]; exact k1)
          unfold mflag
          rw [List.any_eq_true]
          refine ⟨i, List.mem_range.2 hlt, ?_⟩
          rw [hoi]
          simp only [hx, Bool.true_and, Bool.and_eq_true, Bool.not_eq_true']
          constructor
          · cases hb : ((Region.before ops).getD i 0).testBit j with
            | false => rfl
            | true => rw [hbefore j hji (before_spec ops hb)] at k2; cases k2
          · cases hb : ((Region.before ops).getD j 0).testBit i with
            | false => rfl
            | true => exact absurd (before_spec ops hb _ S.dclosed k1) hid
        cases hfree : freeCall P sf oi with
        | true =>
          have hcalm : oddOp P sf ops (Region.before ops) i oi = freeOp (lowOp P ops oi) := by unfold oddOp; rw [hal]; simp only [hfree]
          rw [hcalm] at hwp
          refine step _ (fun β' => β' = β) (fun e' L' h' hk' => hk'.1) ?_ (fun next' ho => wpI_sound_free ho hfree S.mem S.rel S.okl hwp)
          rintro β' e' L' h' rfl ⟨_, rfl⟩ j u hj oj hoj hm hl1 hl2 w' s
          have hflag := flagOf (by rw [hfree]; simp) j u hj
          rw [hflag] at s ⊢
          exact s
        | false =>
        have hcalm : oddOp P sf ops (Region.before ops) i oi = calmOp (lowOp P ops oi) := by unfold oddOp; rw [hal]; simp only [hfree]
        rw [hcalm] at hwp happ
        cases happk : isApp (lowKind P oi.op) with
        | true =>
          refine step _ (fun β' => ∀ i, refOk L i → β' i = β i) (fun e' L' h' hk' => hk'.1) ?_ (fun next' ho => wpI_sound_app ho happk happ S.mem S.rel S.okl hwp)
          rintro β' e' L' h' hβ ⟨_, hl, rfl⟩ j u hj oj hoj hm hl1 hl2 w' s
          have hflag := flagOf (by rw [happk]; rfl) j u hj
          rw [hflag] at s ⊢
          obtain ⟨s1, s2⟩ := see_msk_iff.1 s
          refine see_msk_iff.2 ⟨s1, fun q l hqN hq hr => ?_⟩
          have hs := s2 q l hqN (hl q l hqN hq hr) hr
          have hb := hβ q ⟨l, hq, hr⟩
          cases l with
          | own cs ty => simp only [LE.sees] at hs ⊢; rw [← hb, ← cs_agree (S.okl q cs ty hq) hβ]; exact hs
          | pub b => simp only [LE.sees] at hs ⊢; rw [← hb]; exact hs
          | row => cases hr
          | map => simp only [LE.sees] at hs ⊢; rw [← hb]; exact hs
          | gone => trivial
        | false =>
          cases hcallk : isCall (lowKind P oi.op) with
          | true =>
            refine step _ (fun β' => β' = β) (fun e' L' h' hk' => hk'.1) ?_ (fun next' ho => wpI_sound_call ho hcallk S.mem S.rel S.okl hwp)
            rintro β' e' L' h' rfl ⟨_, dm⟩ j u hj oj hoj hm hl1 hl2 w' s
            exact dm _ _ _ s
          | false =>
            refine step _ Any (fun e' L' h' hk' => hk') ?_ (fun next' ho => wpI_sound ho S.mem S.rel S.okl (calm_wpI hwp))
            intro β' e' L' h' _ _ j u hj oj hoj hm
            exact (other happk hcallk j u hj oj hoj hm).elim

theorem number_mem {α : Type} : ∀ (l : List α) (k i : Nat) (x : α), (i, x) ∈ number l k ↔ k ≤ i ∧ l[i - k]? = some x
  | [], k, i, x => by simp [number]
  | y :: l, k, i, x => by
    simp only [number, List.mem_cons, Prod.mk.injEq, number_mem l (k + 1) i x]
    constructor
    · rintro (⟨rfl, rfl⟩ | ⟨h1, h2⟩)
      · simp
      · refine ⟨by omega, ?_⟩
        rw [show i - k = (i - (k + 1)) + 1 by omega]; simpa using h2
    · rintro ⟨h1, h2⟩
      by_cases hk : i = k
      · subst hk; simp at h2; exact .inl ⟨rfl, h2.symm⟩
      · refine .inr ⟨by omega, ?_⟩
        rw [show i - k = (i - (k + 1)) + 1 by omega] at h2; simpa using h2
theorem lowOdd_get (sf : List Nat) (ops : Array Oper) (b : Array Nat) : ∀ (l : List Oper) (k i : Nat), (lowOdd P sf ops b l k)[i]? = (l[i]?).map fun o => ({ o := oddOp P sf ops b (k + i) o, after := (o.after.toList.filter (Region.binds .any)).map (·.on), m := mflag P sf ops b (k + i) } : OOp)
  | [], k, i => by simp [lowOdd]
  | o :: l, k, 0 => by simp [lowOdd]
  | o :: l, k, i + 1 => by
    simp only [lowOdd, List.getElem?_cons_succ, lowOdd_get sf ops b l (k + 1) i]
    rw [show k + 1 + i = k + (i + 1) by omega]
theorem number_idx {α : Type} : ∀ (l : List α) (k : Nat), (number l k).map (·.1) = List.range' k l.length
  | [], k => rfl
  | y :: l, k => by simp only [number, List.map_cons, number_idx l (k + 1), List.length_cons, List.range'_succ]

theorem wp_region_odd {sf : List Nat} {id : Nat} {ops : Array Oper} {K : KT} {Q : Exit → Act → World → Prop} (hmix : P.follows .mixedOrders = true) (ho : oddOk P ops = true) (hQ : Out h0 w0 n Any K (Q .normal))
    (m : Mem h0 w0 β L h w) (r : Rel n β L e a) (hL : OkL L) (hp : wpOdd P n (lowOdd P sf ops (Region.before ops) ops.toList 0) e L h K) : (Code.region id ops true).wp P Q a w := by
  have ok := oddOk_spec ho
  refine wp_region_any hmix ?_
  have hrep : ∀ j, (Array.replicate ops.size false).getD j false = false := fun j => getD_replicate_false _ _
  refine sim_sound (sf := sf) ok hQ ops.size _ a _ [] [] _ _ e L h β ?_ ?_ hp ?_
  · refine ⟨by simp, fun j oj hj hl => ?_, fun j oj hj hl => (by cases hl), fun j hj => ?_, fun j hj => (by cases hj), fun j hj => (by cases hj), by simp, fun j v hj => (by cases hj), ?_, r, hL⟩
    · have hl' : (Array.replicate ops.size false).getD j false = true := hl
      rw [hrep] at hl'; cases hl'
    · rw [hrep] at hj; cases hj
    · exact ⟨⟨m.see.hw, m.see.see⟩, m.hole, m.inj, m.lt, m.lo, m.os, m.tape, m.output, m.size, m.frame, m.fresh⟩
  · refine ⟨?_, fun i o => ?_⟩
    · unfold idx
      rw [number_idx]
      exact List.nodup_range'
    · rw [number_mem]
      simp only [Nat.zero_le, true_and, Nat.sub_zero, lowOdd_get, Nat.zero_add, Option.map_eq_some_iff, List.not_mem_nil, not_false_eq_true, Array.getElem?_toList]
      constructor
      · rintro ⟨oi, hi, rfl⟩; exact ⟨oi, hi, rfl⟩
      · rintro ⟨oi, hi, rfl⟩; exact ⟨oi, hi, rfl⟩
  · exact ⟨List.range ops.size, by simp, fun j hj _ => List.mem_range.2 hj⟩
end
end Go.Sx
