/- Each kind of operation together. Conditions: none. -/
import Derived.Test.YthibgmkobcbhhaaGreatSx10m
namespace Go.Sx
open Go.RowKit
section
variable {P : Program} {h0 : Hp} {w0 : World} {n : Nat} {β : Nat → Nat} {L : List LE} {h : Hp} {e : Env} {a : Act} {w : World}

theorem isV_kind (k : IK) (hk : isV k = true) (d : Option Nat) (K : KT) : wpK P n k d e L h K = wpV k e L h fun x => putS n d x e L h K := by
  cases k <;> first | rfl | (simp only [isV] at hk; cases hk)

/-- One reading operation, whichever. -/
theorem execV_all {o : Oper} (r : Rel n β L e a) (hL : OkL L) (hk : isV (lowKind P o.op) = true) {V : SV → Prop} (hp : wpV (lowKind P o.op) e L h V) : ∃ sv, V sv ∧ sv.ok L ∧ Yields P o a β L h sv := by
  have bad : wpV .bad e L h V → ∃ sv, V sv ∧ sv.ok L ∧ Yields P o a β L h sv := fun hb => hb.elim
  cases hop : o.op with
  | move x => rw [hop] at hp; exact (execV_move r hop hp)
  | assign x => rw [hop] at hk; cases hk
  | pick c x y => rw [hop] at hp; exact (execV_pick r hop hp)
  | alloc t => rw [hop] at hk; simp only [lowKind] at hk; (repeat' split at hk) <;> cases hk
  | box t x => rw [hop] at hk; cases hk
  | buildSlice t len ps => rw [hop] at hk; simp only [lowKind] at hk; (repeat' split at hk) <;> cases hk
  | load t x =>
    rw [hop] at hp
    simp only [lowKind] at hp
    split at hp
    · rename_i ht
      refine (execV_load r hL hop ht ?_)
      cases hg : tyAgg P t <;> rw [hg] at hp <;> exact hp
    · exact bad hp
  | store t x y => rw [hop] at hk; simp only [lowKind] at hk; (repeat' split at hk) <;> cases hk
  | nilCheck x => rw [hop] at hp; exact (execV_nilck r hop hp)
  | binOp op t x y t' =>
    rw [hop] at hp
    have har : wpV (.arith op (lowArg x) (lowArg y)) e L h V → ∃ sv, V sv ∧ sv.ok L ∧ Yields P o a β L h sv := fun hq => (execV_arith r hop hq)
    have hcm : wpV (.cmp op (lowArg x) (lowArg y)) e L h V → ∃ sv, V sv ∧ sv.ok L ∧ Yields P o a β L h sv := fun hq => (execV_cmp r hop hq)
    have hdv : wpV (.divm op (lowArg x) (lowArg y)) e L h V → ∃ sv, V sv ∧ sv.ok L ∧ Yields P o a β L h sv := fun hq => (execV_div r hop hq)
    cases op with
    | add =>
      simp only [lowKind] at hp
      split at hp
      · exact har hp
      · exact hp.elim
    | sub =>
      simp only [lowKind] at hp
      split at hp
      · exact har hp
      · exact hp.elim
    | mul =>
      simp only [lowKind] at hp
      split at hp
      · exact har hp
      · exact hp.elim
    | quo =>
      simp only [lowKind] at hp
      split at hp
      · exact hdv hp
      · exact hp.elim
    | rem =>
      simp only [lowKind] at hp
      split at hp
      · exact hdv hp
      · exact hp.elim
    | eql =>
      simp only [lowKind] at hp
      split at hp
      · exact hcm hp
      · exact execV_eqv (neg := false) r hop hp
    | neq =>
      simp only [lowKind] at hp
      split at hp
      · exact hcm hp
      · exact execV_eqv (neg := true) r hop hp
    | lss =>
      simp only [lowKind] at hp
      split at hp
      · exact hcm hp
      · exact hp.elim
    | leq =>
      simp only [lowKind] at hp
      split at hp
      · exact hcm hp
      · exact hp.elim
    | gtr =>
      simp only [lowKind] at hp
      split at hp
      · exact hcm hp
      · exact hp.elim
    | geq =>
      simp only [lowKind] at hp
      split at hp
      · exact hcm hp
      · exact hp.elim
    | shr =>
      simp only [lowKind] at hp
      split at hp
      · exact execV_shr r hop hp
      · exact bad hp
    | _ => exact hp.elim
  | unOp op t x =>
    rw [hop] at hp
    cases op with
    | not => exact (execV_not r hop hp)
    | neg =>
      simp only [lowKind] at hp
      split at hp
      · exact (execV_neg r hop hp)
      · exact bad hp
    | _ => exact hp.elim
  | fieldAddr t x i =>
    rw [hop] at hp
    simp only [lowKind] at hp
    split at hp
    · rename_i f hf
      split at hp
      · rename_i ht; exact (execV_fieldA r hop hf ht hp)
      · exact bad hp
    · exact bad hp
  | indexAddr t x i =>
    rw [hop] at hp
    simp only [lowKind] at hp
    split at hp
    · rename_i el hu
      split at hp
      · rename_i ht; exact (execV_indexA r hop hu ht hp)
      · exact bad hp
    · rename_i m el hu
      split at hp
      · rename_i ht; exact (execV_indexP r hop hu ht hp)
      · exact bad hp
    · exact bad hp
  | extract x i => rw [hop] at hp; exact (execV_extract r hop hp)
  | makeSlice t x y => rw [hop] at hk; simp only [lowKind] at hk; (repeat' split at hk) <;> cases hk
  | makeFunc fn first caps => rw [hop] at hk; cases fn <;> simp only [lowKind] at hk <;> (repeat' split at hk) <;> cases hk
  | call c =>
    rw [hop] at hp
    obtain ⟨cal, args, tys⟩ := c
    simp only [lowKind] at hp
    cases cal with
    | value f =>
      cases f with
      | func f => exact hp.elim
      | tmp t => exact hp.elim
      | const v => exact hp.elim
      | global g => exact hp.elim
    | invoke x y => exact hp.elim
    | builtin b =>
      cases b with
      | append =>
        simp only at hp
        split at hp
        · rename_i x y t t' hargs htys
          split at hp
          · rename_i el hu
            split at hp
            · rename_i s bb zs he
              split at hp
              · rename_i htt
                subst htt
                have e1 : args = #[x, y] := by rw [← Array.toArray_toList (xs := args), hargs]
                have e2 : tys = #[t, t] := by rw [← Array.toArray_toList (xs := tys), htys]
                subst e1; subst e2
                exact hp.elim
              · exact bad hp
            · exact bad hp
          · exact bad hp
        · exact bad hp
      | len =>
        simp only at hp
        split at hp
        · rename_i x t hargs htys
          have e1 : args = #[x] := by rw [← Array.toArray_toList (xs := args), hargs]
          have e2 : tys = #[t] := by rw [← Array.toArray_toList (xs := tys), htys]
          subst e1; subst e2
          split at hp
          · rename_i el hu; exact (execV_len r hop hu hp)
          · rename_i kt el hu; exact (execV_lenM r hop hu hp)
          · exact hp.elim
        · exact bad hp
      | min =>
        simp only at hp
        split at hp
        · rename_i x y hargs
          have e1 : args = #[x, y] := by rw [← Array.toArray_toList (xs := args), hargs]
          subst e1
          exact (execV_minmax (mx := false) r hop hp)
        · exact bad hp
      | max =>
        simp only at hp
        split at hp
        · rename_i x y hargs
          have e1 : args = #[x, y] := by rw [← Array.toArray_toList (xs := args), hargs]
          subst e1
          exact (execV_minmax (mx := true) r hop hp)
        · exact bad hp
      | _ => exact hp.elim
  | ready g => rw [hop] at hk; cases hk
  | waits g => rw [hop] at hk; cases hk
  | insert t m k v => rw [hop] at hk; cases hk
  | convert s d x => exact execV_conv r hop hp
  | sliceToArrayPointer t x => rw [hop] at hk; cases hk
  | makeInterface t x => rw [hop] at hk; cases hk
  | makeChan t x => rw [hop] at hk; cases hk
  | index t x i => rw [hop] at hk; cases hk
  | mapEntry t m k => rw [hop] at hk; cases hk
  | entryStore t m s v => rw [hop] at hk; cases hk
  | range t x => rw [hop] at hk; simp only [lowKind] at hk; (repeat' split at hk) <;> cases hk
  | next x b => rw [hop] at hk; simp only [lowKind] at hk; (repeat' split at hk) <;> cases hk
  | entry x => rw [hop] at hk; cases hk
  | typeAssert x t s b => rw [hop] at hk; cases hk
  | go c => rw [hop] at hk; cases hk
  | defer c => rw [hop] at hk; cases hk
  | panic x => rw [hop] at hk; cases hk
  | send c x => rw [hop] at hk; cases hk
  | recv t c b => rw [hop] at hk; cases hk
  | select cs b => rw [hop] at hk; cases hk
  | build t ps =>
    rw [hop] at hp
    simp only [lowKind] at hp
    split at hp
    · rename_i i hi
      split at hp
      · rename_i z l hz hl
        split at hl
        · rename_i hs; exact (execV_build r hop hi hz hs hl hp)
        · exact (execV_buildA r hop hi hz hl hp)
      · exact bad hp
    · exact bad hp
  | makeMap t r => rw [hop] at hk; simp only [lowKind] at hk; (repeat' split at hk) <;> cases hk
  | slice t x lo hi mx =>
    rw [hop] at hp
    simp only [lowKind] at hp
    split at hp
    · rename_i el hu
      split at hp
      · rename_i ht; exact (execV_slice r hop hu ht hp)
      · exact bad hp
    · exact bad hp
  | field t x i =>
    rw [hop] at hp
    simp only [lowKind] at hp
    split at hp
    · rename_i f hf
      split at hp
      · rename_i ht
        refine (execV_field r hop hf ht ?_)
        cases hg : tyAgg P f.type <;> rw [hg] at hp <;> exact hp
      · exact bad hp
    · exact bad hp
  | lookup t x k b =>
    rw [hop] at hp
    simp only [lowKind] at hp
    split at hp
    · rename_i kt el hu
      split at hp
      · rename_i kk z hkk hz; exact execV_lookup r hop hu hkk hz hp
      · exact bad hp
    · exact bad hp
  | mapUpdate t m k v => rw [hop] at hk; simp only [lowKind] at hk; (repeat' split at hk) <;> cases hk

theorem wpK_conv {P : Program} {n s d : Nat} {x : Operand} {dd : Option Nat} {e : Env} {L : List LE} {h : Hp} {K : KT} : wpK P n (lowKind P (.convert s d x)) dd e L h K = wpV (lowKind P (.convert s d x)) e L h fun sv => putS n dd sv e L h K := by
  simp only [lowKind]
  split
  · rfl
  · split <;> rfl
theorem wpK_lowEq (neg : Bool) (t : TypeId) (x y : Arg) (d : Option Nat) (K : KT) : wpK P n (lowEq P neg t x y) d e L h K = wpV (lowEq P neg t x y) e L h fun x => putS n d x e L h K := by
  unfold lowEq
  split <;> rfl

theorem exec_set {o : Oper} {x : Operand} (hop : o.op = .assign x) {K : KT} {next : Act → World → Prop} {Q : Exit → Act → World → Prop} {C : (Nat → Nat) → Prop} (hC : ∀ β', (∀ i, i < L.length → β' i = β i) → C β') (ho : Out h0 w0 n C K next)
    (m : Mem h0 w0 β L h w) (r : Rel n β L e a) (hL : OkL L) (hp : wpK P n (.set (lowArg x)) o.dst e L h K) : o.wp P a w next Q := by
  simp only [wpK, force_eq] at hp
  refine wp_value (v := ((lowArg x).get e).c β) (w' := w) (by simp [execOp, hop, r.eval x]) ?_
  exact putS_sound ho (hC β fun _ _ => rfl) m r hL (r.okArg x) hp

/-- One operation, whichever. -/
theorem exec_op {o : Oper} {K : KT} {next : Act → World → Prop} {Q : Exit → Act → World → Prop} (ho : Out h0 w0 n Any K next)
    (m : Mem h0 w0 β L h w) (r : Rel n β L e a) (hL : OkL L) (hp : wpK P n (lowKind P o.op) o.dst e L h K) : o.wp P a w next Q := by
  have fin : (∃ sv, putS n o.dst sv e L h K ∧ sv.ok L ∧ Yields P o a β L h sv) → o.wp P a w next Q := fun hx => wp_of_V m.see hx fun sv hsv hk => putS_sound ho trivial m r hL hsv hk
  by_cases hk : isV (lowKind P o.op) = true
  · rw [isV_kind _ hk] at hp
    exact fin (execV_all r hL hk hp)
  have bad : wpK P n .bad o.dst e L h K → o.wp P a w next Q := fun hb => hb.elim
  cases hop : o.op with
  | move x => rw [hop] at hp; exact fin (execV_move r hop (V := fun x => putS n o.dst x e L h K) hp)
  | assign x => rw [hop] at hp; exact exec_set hop (fun _ _ => trivial) ho m r hL hp
  | pick c x y => rw [hop] at hp; exact fin (execV_pick r hop hp)
  | alloc t =>
    rw [hop] at hp
    simp only [lowKind] at hp
    split at hp
    · rename_i i hi
      split at hp
      · rename_i z hz; exact exec_alloc hop hi hz (fun _ _ => trivial) ho m r hL hp
      · exact bad hp
    · exact bad hp
  | box t x => rw [hop] at hp; exact exec_box hop (fun _ _ => trivial) ho m r hL hp
  | buildSlice t len ps =>
    rw [hop] at hp
    simp only [lowKind] at hp
    split at hp
    · rename_i el hu
      split at hp
      · rename_i s b zs he
        obtain ⟨i, z, hi, hz, e1, e2, e3, e4, e5⟩ := elemOk_spec he
        subst e1; subst e5
        exact exec_bslice hop hu hi hz e3 (fun _ _ => trivial) ho m r hL hp
      · exact bad hp
    · exact bad hp
  | load t x =>
    rw [hop] at hp
    simp only [lowKind] at hp
    split at hp
    · rename_i ht
      refine fin (execV_load r hL hop ht ?_)
      cases hg : tyAgg P t <;> rw [hg] at hp <;> exact hp
    · exact bad hp
  | store t x y =>
    rw [hop] at hp
    simp only [lowKind] at hp
    split at hp
    · rename_i ht; exact exec_store hop ht ho m r hL hp
    · exact bad hp
  | nilCheck x => rw [hop] at hp; exact fin (execV_nilck r hop hp)
  | binOp op t x y t' =>
    rw [hop] at hp
    have har : wpK P n (.arith op (lowArg x) (lowArg y)) o.dst e L h K → o.wp P a w next Q := fun hq => fin (execV_arith r hop hq)
    have hcm : wpK P n (.cmp op (lowArg x) (lowArg y)) o.dst e L h K → o.wp P a w next Q := fun hq => fin (execV_cmp r hop hq)
    have hdv : wpK P n (.divm op (lowArg x) (lowArg y)) o.dst e L h K → o.wp P a w next Q := fun hq => fin (execV_div r hop hq)
    cases op with
    | add =>
      simp only [lowKind] at hp
      split at hp
      · exact har hp
      · exact hp.elim
    | sub =>
      simp only [lowKind] at hp
      split at hp
      · exact har hp
      · exact hp.elim
    | mul =>
      simp only [lowKind] at hp
      split at hp
      · exact har hp
      · exact hp.elim
    | quo =>
      simp only [lowKind] at hp
      split at hp
      · exact hdv hp
      · exact hp.elim
    | rem =>
      simp only [lowKind] at hp
      split at hp
      · exact hdv hp
      · exact hp.elim
    | eql =>
      simp only [lowKind] at hp
      split at hp
      · exact hcm hp
      · exact fin (execV_eqv (neg := false) r hop (by rw [wpK_lowEq] at hp; exact hp))
    | neq =>
      simp only [lowKind] at hp
      split at hp
      · exact hcm hp
      · exact fin (execV_eqv (neg := true) r hop (by rw [wpK_lowEq] at hp; exact hp))
    | lss =>
      simp only [lowKind] at hp
      split at hp
      · exact hcm hp
      · exact hp.elim
    | leq =>
      simp only [lowKind] at hp
      split at hp
      · exact hcm hp
      · exact hp.elim
    | gtr =>
      simp only [lowKind] at hp
      split at hp
      · exact hcm hp
      · exact hp.elim
    | geq =>
      simp only [lowKind] at hp
      split at hp
      · exact hcm hp
      · exact hp.elim
    | shr =>
      simp only [lowKind] at hp
      split at hp
      · exact fin (execV_shr r hop hp)
      · exact bad hp
    | _ => exact hp.elim
  | unOp op t x =>
    rw [hop] at hp
    cases op with
    | not => exact fin (execV_not r hop hp)
    | neg =>
      simp only [lowKind] at hp
      split at hp
      · exact fin (execV_neg r hop hp)
      · exact bad hp
    | _ => exact hp.elim
  | fieldAddr t x i =>
    rw [hop] at hp
    simp only [lowKind] at hp
    split at hp
    · rename_i f hf
      split at hp
      · rename_i ht; exact fin (execV_fieldA r hop hf ht hp)
      · exact bad hp
    · exact bad hp
  | indexAddr t x i =>
    rw [hop] at hp
    simp only [lowKind] at hp
    split at hp
    · rename_i el hu
      split at hp
      · rename_i ht; exact fin (execV_indexA r hop hu ht hp)
      · exact bad hp
    · rename_i m el hu
      split at hp
      · rename_i ht; exact fin (execV_indexP r hop hu ht hp)
      · exact bad hp
    · exact bad hp
  | extract x i => rw [hop] at hp; exact fin (execV_extract r hop hp)
  | makeSlice t x y =>
    rw [hop] at hp
    simp only [lowKind] at hp
    split at hp
    · rename_i el hu
      split at hp
      · rename_i s b zs he; exact exec_mkslice hop hu he (fun _ _ => trivial) ho m r hL hp
      · exact bad hp
    · exact bad hp
  | makeFunc fn first caps =>
    rw [hop] at hp
    cases fn with
    | func f =>
      simp only [lowKind] at hp
      split at hp
      · rename_i hf
        exact exec_mkfunc hop (Array.eq_empty_of_size_eq_zero hf) ho m r hL hp
      · exact bad hp
    | _ => exact hp.elim
  | call c =>
    rw [hop] at hp
    obtain ⟨cal, args, tys⟩ := c
    simp only [lowKind] at hp
    cases cal with
    | value f =>
      cases f with
      | func f => exact exec_call hop ho m r hL hp
      | tmp t => exact exec_callv hop ho m r hL hp
      | const v => exact exec_callv hop ho m r hL hp
      | global g => exact exec_callv hop ho m r hL hp
    | invoke x y => exact hp.elim
    | builtin b =>
      cases b with
      | append =>
        simp only at hp
        split at hp
        · rename_i x y t t' hargs htys
          split at hp
          · rename_i el hu
            split at hp
            · rename_i s bb zs he
              split at hp
              · rename_i htt
                subst htt
                have e1 : args = #[x, y] := by rw [← Array.toArray_toList (xs := args), hargs]
                have e2 : tys = #[t, t] := by rw [← Array.toArray_toList (xs := tys), htys]
                subst e1; subst e2
                exact exec_append hop hu he ho m r hL hp
              · exact bad hp
            · exact bad hp
          · exact bad hp
        · exact bad hp
      | len =>
        simp only at hp
        split at hp
        · rename_i x t hargs htys
          have e1 : args = #[x] := by rw [← Array.toArray_toList (xs := args), hargs]
          have e2 : tys = #[t] := by rw [← Array.toArray_toList (xs := tys), htys]
          subst e1; subst e2
          split at hp
          · rename_i el hu; exact fin (execV_len r hop hu hp)
          · rename_i kt el hu; exact fin (execV_lenM r hop hu hp)
          · exact hp.elim
        · exact bad hp
      | min =>
        simp only at hp
        split at hp
        · rename_i x y hargs
          have e1 : args = #[x, y] := by rw [← Array.toArray_toList (xs := args), hargs]
          subst e1
          exact fin (execV_minmax (mx := false) r hop hp)
        · exact bad hp
      | max =>
        simp only at hp
        split at hp
        · rename_i x y hargs
          have e1 : args = #[x, y] := by rw [← Array.toArray_toList (xs := args), hargs]
          subst e1
          exact fin (execV_minmax (mx := true) r hop hp)
        · exact bad hp
      | _ => exact hp.elim
  | ready g => rw [hop] at hp; exact hp.elim
  | waits g => rw [hop] at hp; exact hp.elim
  | insert t m k v => rw [hop] at hp; exact hp.elim
  | convert s d x => exact fin (execV_conv r hop (by rw [hop] at hp ⊢; rw [wpK_conv] at hp; exact hp))
  | sliceToArrayPointer t x => rw [hop] at hp; exact hp.elim
  | makeInterface t x => rw [hop] at hp; exact hp.elim
  | makeChan t x => rw [hop] at hp; exact hp.elim
  | index t x i => rw [hop] at hp; exact hp.elim
  | mapEntry t m k => rw [hop] at hp; exact hp.elim
  | entryStore t m s v => rw [hop] at hp; exact hp.elim
  | range t x =>
    rw [hop] at hp
    simp only [lowKind] at hp
    split at hp
    · rename_i kt el hu; exact exec_range hop hu ho m r hL hp
    · exact bad hp
  | next x b =>
    rw [hop] at hp
    cases b with
    | true => exact hp.elim
    | false => exact exec_next hop ho m r hL hp
  | entry x => rw [hop] at hp; exact exec_entry hop ho m r hL hp
  | typeAssert x t s b => rw [hop] at hp; exact hp.elim
  | go c => rw [hop] at hp; exact hp.elim
  | defer c => rw [hop] at hp; exact hp.elim
  | panic x => rw [hop] at hp; exact hp.elim
  | send c x => rw [hop] at hp; exact hp.elim
  | recv t c b => rw [hop] at hp; exact hp.elim
  | select cs b => rw [hop] at hp; exact hp.elim
  | build t ps =>
    rw [hop] at hp
    simp only [lowKind] at hp
    split at hp
    · rename_i i hi
      split at hp
      · rename_i z l hz hl
        split at hl
        · rename_i hs; exact fin (execV_build r hop hi hz hs hl hp)
        · exact fin (execV_buildA r hop hi hz hl hp)
      · exact bad hp
    · exact bad hp
  | makeMap t r' =>
    rw [hop] at hp
    cases r' with
    | none => exact exec_mkmap hop ho m r hL hp
    | some x => exact bad hp
  | slice t x lo hi mx =>
    rw [hop] at hp
    simp only [lowKind] at hp
    split at hp
    · rename_i el hu
      split at hp
      · rename_i ht; exact fin (execV_slice r hop hu ht hp)
      · exact bad hp
    · exact bad hp
  | field t x i =>
    rw [hop] at hp
    simp only [lowKind] at hp
    split at hp
    · rename_i f hf
      split at hp
      · rename_i ht
        refine fin (execV_field r hop hf ht ?_)
        cases hg : tyAgg P f.type <;> rw [hg] at hp <;> exact hp
      · exact bad hp
    · exact bad hp
  | lookup t x k b =>
    rw [hop] at hp
    simp only [lowKind] at hp
    split at hp
    · rename_i kt el hu
      split at hp
      · rename_i kk z hkk hz; exact fin (execV_lookup r hop hu hkk hz hp)
      · exact bad hp
    · exact bad hp
  | mapUpdate t x k v =>
    rw [hop] at hp
    simp only [lowKind] at hp
    split at hp
    · rename_i kt el hu
      split at hp
      · rename_i kk hkk; exact exec_mapupd hop hu hkk ho m r hL hp
      · exact bad hp
    · exact bad hp
end
end Go.Sx
