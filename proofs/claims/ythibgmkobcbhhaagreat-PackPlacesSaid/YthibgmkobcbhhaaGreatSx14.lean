/- A whole function. Conditions: none. -/
import Derived.Test.YthibgmkobcbhhaaGreatSx13
namespace Go.Sx
open Go.RowKit
/-- The results of a function, one by one. -/
def wpRes (P : Program) : List ResultVar → List SV → Env → List LE → Hp → (List SV → Prop) → Prop
  | [], acc, _, _, _, K => K acc
  | .tmp t :: r, acc, e, L, h, K => wpRes P r (acc ++ [e t]) e L h K
  | .cell t ty :: r, acc, e, L, h, K => bif tyOk P ty then wpV (.load (tyAgg P ty) (tySize P ty) (.t t)) e L h fun x => wpRes P r (acc ++ [x]) e L h K else False
def oneVal : List Value → Value
  | [v] => v
  | vs => .tuple vs.toArray
def wpEnd (P : Program) (rs : List ResultVar) (Q : Value → Hp → Prop) : Post := fun x e L h => match x with
  | .normal | .ret => wpRes P rs [] e L h fun svs => pubs 40 svs (fun L h => match rawArgs L svs with
    | some vs => Shift (fun _ h => Q (oneVal vs) h) L h
    | none => False) L h
  | _ => False
def env0 (args : List Value) : Env := fun t => match nth args t with | some v => .v v | none => .v undef

section
variable {P : Program} {h0 : Hp} {w0 : World} {n : Nat} {β : Nat → Nat} {L : List LE} {h : Hp} {e : Env} {a : Act} {w : World}

/-- one result -/
def resOne (tmps : Array Value) : ResultVar → Sem Value
  | .tmp t => pure (tmps.getD t undef)
  | .cell a t => do loadVar t (← asAddr (tmps.getD a undef))
theorem results_list {fn : Func} {tmps : Array Value} {vs : List Value} (hr : (fn.results.toList.mapM (resOne tmps)).run P w = .ok vs w) : (results fn tmps).run P w = .ok (oneVal vs) w := by
  have hm : (fn.results.mapM fun x => resOne tmps x).run P w = .ok vs.toArray w := by
    rw [Array.mapM_eq_mapM_toList]
    simp [hr]
  have he : results fn tmps = (do
      let vs ← fn.results.mapM fun x => resOne tmps x
      pure (if h : vs.size = 1 then vs[0] else .tuple vs)) := by
    unfold results
    congr 1
  rw [he]
  simp only [Sem.run_bind, hm, Result.andThen_ok, Sem.run_pure]
  congr 1
  match vs with
  | [] => simp [oneVal]
  | [v] => simp [oneVal]
  | v :: u :: r => simp [oneVal]

theorem wpRes_sound (m : Mem h0 w0 β L h w) (r : Rel n β L e a) (hL : OkL L) (K : List SV → Prop) : ∀ (rs : List ResultVar) (acc : List SV), wpRes P rs acc e L h K → (∀ x ∈ acc, x.ok L) →
    ∃ svs, K (acc ++ svs) ∧ (∀ x ∈ svs, x.ok L) ∧ (rs.mapM (resOne a.tmps)).run P w = .ok (svs.map (SV.c β)) w
  | [], acc, hp, _ => ⟨[], by simpa [wpRes] using hp, by simp, by simp⟩
  | .tmp t :: rs, acc, hp, hacc => by
    simp only [wpRes] at hp
    obtain ⟨svs, k1, k2, k3⟩ := wpRes_sound m r hL K rs (acc ++ [e t]) hp (fun x hx => by
      rcases List.mem_append.1 hx with hx | hx
      · exact hacc x hx
      · rw [List.mem_singleton.1 hx]; exact r.ok t)
    refine ⟨e t :: svs, by simpa using k1, fun x hx => ?_, ?_⟩
    · rcases List.mem_cons.1 hx with hx | hx
      · rw [hx]; exact r.ok t
      · exact k2 x hx
    · simp only [List.mapM_cons, resOne, Sem.run_bind, Sem.run_pure, Result.andThen_ok, k3, List.map_cons]
      rw [r.env t]
  | .cell t ty :: rs, acc, hp, hacc => by
    simp only [wpRes] at hp
    cases hty : tyOk P ty with
    | false => rw [hty] at hp; exact hp.elim
    | true =>
      rw [hty] at hp
      simp only [cond_true] at hp
      obtain ⟨sv, hv, hok, hy⟩ := execV_load r hL (o := { dst := none, op := .load ty (.tmp t), type := 0, pos := "", after := #[], guard := none }) rfl hty hp
      have hrun := hy w m.see
      simp only [execOp, Act.eval] at hrun
      obtain ⟨svs, k1, k2, k3⟩ := wpRes_sound m r hL K rs (acc ++ [sv]) hv (fun x hx => by
        rcases List.mem_append.1 hx with hx | hx
        · exact hacc x hx
        · rw [List.mem_singleton.1 hx]; exact hok)
      refine ⟨sv :: svs, by simpa using k1, fun x hx => ?_, ?_⟩
      · rcases List.mem_cons.1 hx with hx | hx
        · rw [hx]; exact hok
        · exact k2 x hx
      · have h1 : (resOne a.tmps (.cell t ty)).run P w = .ok (sv.c β) w := by
          simp only [resOne]
          generalize a.tmps.getD t undef = v at hrun ⊢
          cases v with
          | pointer p =>
            cases p with
            | none => simp [Instr.loadAt, Instr.sureAddr] at hrun
            | some ad =>
              simp only [Instr.loadAt, Instr.sureAddr, asAddr, Sem.run_bind, Sem.run_pure, Result.andThen_ok] at hrun ⊢
              cases hq : (loadVar ty ad).run P w with
              | ok x w' => rw [hq] at hrun; simp at hrun; obtain ⟨q1, q2⟩ := hrun; subst q1; subst q2; rfl
              | halt x w' => rw [hq] at hrun; simp at hrun
          | _ => simp [Instr.loadAt, Instr.sureAddr] at hrun
        simp only [List.mapM_cons, Sem.run_bind, Sem.run_pure, Result.andThen_ok, h1, k3, List.map_cons]

theorem env0_rel {args : List Value} {n : Nat} (hn : args.length ≤ n) (β : Nat → Nat) : Rel n β [] (env0 args) { tmps := args.toArray ++ Array.replicate (n - args.toArray.size) undef, defers := [] } := by
  refine ⟨rfl, by simp; omega, fun t => ?_, fun t => ?_⟩
  · simp only [env0, nth_eq, Array.getD_eq_getD_getElem?, Array.getElem?_append, List.size_toArray, List.getElem?_toArray, Array.getElem?_replicate]
    by_cases ht : t < args.length
    · rw [if_pos ht, List.getElem?_eq_getElem ht]; rfl
    · rw [if_neg ht, List.getElem?_eq_none (by omega)]
      split <;> rfl
  · unfold env0
    split <;> trivial

/-- A function's triple, out of the walk through its body. -/
theorem Fn.intro {sf : List Nat} {f : FuncId} {fn : Func} {c : Code} {ir : IR} {rs : List ResultVar} {args : List Value} {h : Hp} {Q : Value → Hp → Prop} (hmix : P.follows .mixedOrders = true) (hf : P.funcs[f]? = some fn) (hb : fn.body = some c) (hname : (fn.name == "runtime.NumGoroutine") = false) (hn : fn.ntmps = n)
    (hrs : fn.results.toList = rs) (hir : lower P sf c = ir) (hargs : Nat.ble args.length n = true) (hwp : wpIR P n ir (wpEnd P rs Q) (env0 args) [] h) : Fn P f args.toArray h Q := by
  refine ⟨⟨fn, hf, by rw [hb]; rfl, hname⟩, fun w hw => ?_⟩
  subst hir; subst hrs; subst hn
  refine calls_of_wp hf hb ?_
  have m : Mem h w (fun _ => 0) [] h w := ⟨⟨hw, (fun i l hl => by cases hl)⟩, (fun i l hl => by cases hl), (fun i j l l' hl => by cases hl), (fun i l hl => by cases hl), (fun i l hl => by cases hl), rfl, rfl, rfl, Nat.le_refl _, (fun _ _ _ => rfl), (fun j hj => .inl hj)⟩
  have hL : OkL [] := fun i cs ty hi => by cases hi
  have hs := wpIR_sound hmix (h0 := h) (w0 := w) (n := fn.ntmps) c _ (fun _ => 0) (env0 args) [] h _ w m (env0_rel (Nat.le_of_ble_eq_true hargs) _) hL hwp
  refine wp_mono hs ?_
  rintro ex a' w' ⟨β, e, L, h', m', r', hL', hq⟩
  have fin : wpRes P fn.results.toList [] e L h' (fun svs => pubs 40 svs (fun L h => match rawArgs L svs with
    | some vs => Shift (fun _ h => Q (oneVal vs) h) L h
    | none => False) L h') → a'.defers = [] ∧ ∃ v, (results fn a'.tmps).run P w' = .ok v w' ∧ ∃ u h2, Ending.returned v = .returned u ∧ Q u h2 ∧ Ext h w h2 w' := by
    intro hres
    obtain ⟨svs, k1, k2, k3⟩ := wpRes_sound m' r' hL' _ _ [] hres (by simp)
    simp only [List.nil_append] at k1
    obtain ⟨L1, h1, q1, m1, hL1, ref1, _⟩ := pubs_sound svs _ _ _ m' hL' k1
    split at q1
    · rename_i vs hvs
      have hc := rawArgs_c m1.see svs vs hvs
      obtain ⟨β2, L2, h2, z1, m2, _, _, _⟩ := shift_sound q1 β m1 hL1
      rw [hc] at k3
      exact ⟨r'.defers, _, results_list k3, _, h2, rfl, z1, ⟨m2.see.hw, m2.os, m2.tape, m2.output, m2.size, m2.frame, m2.fresh⟩⟩
    · exact q1.elim
  cases ex with
  | normal => exact fin hq
  | ret => exact fin hq
  | exit id => exact hq.elim
  | goto l => exact hq.elim
  | panic ch => exact hq.elim
  | outgrown => exact hq.elim
end
end Go.Sx
