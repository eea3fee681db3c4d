/- Layer 14: a net's web in memory. Conditions: none. -/
import Derived.Test.YtbgfmfgffooniaaS12
namespace Go.Sx
open Go.Proofs
/-- What weave answers. -/
def WovenAt (h' : Hp) (N : Nat) (arcs : List Arc) (r : Value) : Prop :=
  ∃ Aa Ai Ao ca ci co I O, r = .agg #[.slice Aa arcs.length ca, .slice Ai N ci, .slice Ao N co] ∧ Tab h' 5 Aa arcs.length (arcs.map Arc.cells) ∧ Tab h' 1 Ai N (slcRows N (fun v => (ins arcs v).length) I) ∧
    Tab h' 1 Ao N (slcRows N (fun v => (outs arcs v).length) O) ∧ (∀ v, v < N → Tab h' 1 (I v).1 (ins arcs v).length (idxRows (ins arcs v))) ∧ ∀ v, v < N → Tab h' 1 (O v).1 (outs arcs v).length (idxRows (outs arcs v))
theorem famCells_in (N : Nat) (arcs : List Arc) (J : Nat → Option Addr × Nat) : famCells N J (part arcs N arcs.length) 0 = (slcRows N (fun v => (ins arcs v).length) J).flatten := by
  have : ∀ l : List Nat, (∀ v ∈ l, v < N) → l.map (fun v => Value.slice (J (0 + v)).1 (part arcs N arcs.length (0 + v)).length (J (0 + v)).2) = (l.map fun v => [Value.slice (J v).1 (ins arcs v).length (J v).2]).flatten := by
    intro l
    induction l with
    | nil => intro _; rfl
    | cons x l ih =>
      intro hl
      rw [List.map_cons, List.map_cons, List.flatten_cons, ih fun v hv => hl v (List.mem_cons_of_mem _ hv), Nat.zero_add, part_in (hl x (List.mem_cons_self ..))]
      rfl
  exact this _ fun v hv => List.mem_range.1 hv
theorem famCells_out (N : Nat) (arcs : List Arc) (J : Nat → Option Addr × Nat) : famCells N J (part arcs N arcs.length) N = (slcRows N (fun v => (outs arcs v).length) fun v => J (N + v)).flatten := by
  have : ∀ l : List Nat, l.map (fun v => Value.slice (J (N + v)).1 (part arcs N arcs.length (N + v)).length (J (N + v)).2) = (l.map fun v => [Value.slice (J (N + v)).1 (outs arcs v).length (J (N + v)).2]).flatten := by
    intro l
    induction l with
    | nil => rfl
    | cons x l ih => rw [List.map_cons, List.map_cons, List.flatten_cons, ih, part_out]; rfl
  exact this _
theorem slcRows_wid (N : Nat) (len : Nat → Nat) (I : Nat → Option Addr × Nat) : ∀ r ∈ slcRows N len I, r.length = 1 := by
  intro r hr
  obtain ⟨v, _, rfl⟩ := List.mem_map.1 hr
  rfl
theorem idxRows_wid (l : List Nat) : ∀ r ∈ idxRows l, r.length = 1 := by
  intro r hr
  obtain ⟨v, _, rfl⟩ := List.mem_map.1 hr
  rfl
theorem idxRows_len (l : List Nat) : (idxRows l).length = l.length := by simp [idxRows]
theorem Fam.tab {h0 h h' : Hp} {S : Nat → Prop} {J : Nat → Option Addr × Nat} {ct : Nat → List Nat} (f : Fam h0 h S J ct) (x : h.le h') {v : Nat} (hv : S v) : Tab h' 1 (J v).1 (ct v).length (idxRows (ct v)) :=
  ((f.row v hv).mono x).tab (idxRows_wid _) (by decide)
theorem weaveEnd (e : Env) (h h' : Hp) (N n ca : Nat) (arcs : List Arc) (Aa : Option Addr) (gi go : Addr) (J : Nat → Option Addr × Nat) (hn : arcs.length = n) (hf : Fam h h' (fun v => v < 2 * N) J (part arcs N n)) (h2 : e 2 = .p 0 0) (h3 : e 3 = .p 1 0) :
    wpIR Try.prog 55 ((IR.reg ir23_r9).seq IR.ret) (wpEnd Try.prog Try.f23.results.toList fun r h' => h.le h' ∧ WovenAt h' N arcs r) e (webL N n ca arcs Aa gi go n J) h' := by
  subst hn
  have he : e = upd (upd e 3 (.p 1 0)) 2 (.p 0 0) := by
    funext t
    unfold upd
    by_cases q : t = 2
    · subst q; exact h2
    · by_cases q2 : t = 3
      · subst q2; exact h3
      · rw [show Nat.beq t 2 = false from Bool.eq_false_iff.2 fun k => q (Nat.eq_of_beq_eq_true k), show Nat.beq t 3 = false from Bool.eq_false_iff.2 fun k => q2 (Nat.eq_of_beq_eq_true k)]; rfl
  rw [he]
  conv => whnf
  refine .pub 2 39 5 Aa arcs.length ca _ rfl fun h1 hle1 hr1 _ => .pub 3 40 1 (some gi) N N _ rfl fun h2 hle2 hr2 _ => .pub 4 40 1 (some go) N N _ rfl fun h3 hle3 hr3 _ => .done ?_
  rw [famCells_in] at hr2
  rw [famCells_out] at hr3
  have l13 := Hp.le_trans hle2 hle3
  have l03 := Hp.le_trans hle1 l13
  refine ⟨Hp.le_trans hf.le l03, Aa, some gi, some go, ca, N, N, J, fun v => J (N + v), rfl, (hr1.mono l13).tab (arcs_wid _) (by decide), (hr2.mono hle3).tab (slcRows_wid _ _ _) (by decide), hr3.tab (slcRows_wid _ _ _) (by decide), fun v hv => ?_, fun v hv => ?_⟩
  · have := hf.tab l03 (v := v) (by omega)
    rwa [part_in hv] at this
  · have := hf.tab l03 (v := N + v) (by omega)
    rwa [part_out] at this
theorem some_of {A : Option Addr} {b n : Nat} (h : A = none ↔ some (⟨b, 0, none⟩ : Addr) = none ∧ n = 0) : ∃ g, A = some g := by
  cases A with
  | none => cases (h.1 rfl).1
  | some g => exact ⟨g, rfl⟩
set_option maxHeartbeats 4000000 in
theorem weave23 (N n ca : Nat) (arcs : List Arc) (A : Option Addr) (h : Hp) (hs : chk N arcs = 0) (ht : Tab h 5 A n (arcs.map Arc.cells)) (hn : n * 40 ≤ 140737488355328) :
    Fn Try.prog 23 #[netV N A n ca] h fun r h' => h.le h' ∧ WovenAt h' N arcs r := by
  have hN := (chk_zero hs).2.1
  have hlen : arcs.length = n := by simpa using ht.len
  refine Fn.intro (args := [netV N A n ca]) mix14 Try.func23 rfl (by decide) Try.ntmps23 rfl (low23 rfl) rfl ?_
  conv => whnf
  refine And.intro ?_ ?_
  · conv => whnf
    refine And.intro ?_ ?_
    · conv => whnf
      refine EvPub.mk fun b hb => ?_
      conv => whnf
      refine EvAppend.old 3 _ _ rfl (ht.src _) (arcs_one arcs) (by simp [maxLen]; omega) (by omega) fun A c hA => ?_
      conv => whnf
      refine And.intro ?_ ?_
      · conv => whnf
        refine EvMake.one N (.slice none 0 0) rfl rfl rfl rfl (by omega) (by omega) fun gI => ?_
        conv => whnf
        refine And.intro ?_ ?_
        · conv => whnf
          refine EvMake.one N (.slice none 0 0) rfl rfl rfl rfl (by omega) (by omega) fun gO => ?_
          conv => whnf
          exact weaveLoop _ _ _ h [1, 6, 3, 4, 5] N (0 + n) c arcs A gI gO hs (by omega) (fun _ => some_of hA) rfl rfl rfl fun e J h1 hf h2 h3 => weaveEnd e h h1 N (0 + n) c arcs A gI gO J (by omega) hf h2 h3
        · conv => whnf
          refine EvMake.one N (.slice none 0 0) rfl rfl rfl rfl (by omega) (by omega) fun gO => ?_
          conv => whnf
          exact weaveLoop _ _ _ h [1, 5, 3, 4, 6] N (0 + n) c arcs A gI gO hs (by omega) (fun _ => some_of hA) rfl rfl rfl fun e J h1 hf h2 h3 => weaveEnd e h h1 N (0 + n) c arcs A gI gO J (by omega) hf h2 h3
      · conv => whnf
        refine And.intro ?_ ?_
        · conv => whnf
          refine EvMake.one N (.slice none 0 0) rfl rfl rfl rfl (by omega) (by omega) fun gO => ?_
          conv => whnf
          refine And.intro ?_ ?_
          · conv => whnf
            refine EvMake.one N (.slice none 0 0) rfl rfl rfl rfl (by omega) (by omega) fun gI => ?_
            conv => whnf
            exact weaveLoop _ _ _ h [1, 6, 3, 5, 4] N (0 + n) c arcs A gI gO hs (by omega) (fun _ => some_of hA) rfl rfl rfl fun e J h1 hf h2 h3 => weaveEnd e h h1 N (0 + n) c arcs A gI gO J (by omega) hf h2 h3
          · conv => whnf
            refine EvMake.one N (.slice none 0 0) rfl rfl rfl rfl (by omega) (by omega) fun gI => ?_
            conv => whnf
            exact weaveLoop _ _ _ h [1, 5, 3, 6, 4] N (0 + n) c arcs A gI gO hs (by omega) (fun _ => some_of hA) rfl rfl rfl fun e J h1 hf h2 h3 => weaveEnd e h h1 N (0 + n) c arcs A gI gO J (by omega) hf h2 h3
        · conv => whnf
          refine And.intro ?_ ?_
          · conv => whnf
            refine EvMake.one N (.slice none 0 0) rfl rfl rfl rfl (by omega) (by omega) fun gI => ?_
            conv => whnf
            refine EvMake.one N (.slice none 0 0) rfl rfl rfl rfl (by omega) (by omega) fun gO => ?_
            conv => whnf
            exact weaveLoop _ _ _ h [1, 4, 3, 5, 6] N (0 + n) c arcs A gI gO hs (by omega) (fun _ => some_of hA) rfl rfl rfl fun e J h1 hf h2 h3 => weaveEnd e h h1 N (0 + n) c arcs A gI gO J (by omega) hf h2 h3
          · conv => whnf
            refine EvMake.one N (.slice none 0 0) rfl rfl rfl rfl (by omega) (by omega) fun gO => ?_
            conv => whnf
            refine EvMake.one N (.slice none 0 0) rfl rfl rfl rfl (by omega) (by omega) fun gI => ?_
            conv => whnf
            exact weaveLoop _ _ _ h [1, 4, 3, 6, 5] N (0 + n) c arcs A gI gO hs (by omega) (fun _ => some_of hA) rfl rfl rfl fun e J h1 hf h2 h3 => weaveEnd e h h1 N (0 + n) c arcs A gI gO J (by omega) hf h2 h3
    · conv => whnf
      refine And.intro ?_ ?_
      · conv => whnf
        refine EvMake.one N (.slice none 0 0) rfl rfl rfl rfl (by omega) (by omega) fun gI => ?_
        conv => whnf
        refine And.intro ?_ ?_
        · conv => whnf
          refine EvPub.mk fun b hb => ?_
          conv => whnf
          refine EvAppend.old 4 _ _ rfl (ht.src _) (arcs_one arcs) (by simp [maxLen]; omega) (by omega) fun A c hA => ?_
          conv => whnf
          refine And.intro ?_ ?_
          · conv => whnf
            refine EvMake.one N (.slice none 0 0) rfl rfl rfl rfl (by omega) (by omega) fun gO => ?_
            conv => whnf
            exact weaveLoop _ _ _ h [1, 6, 4, 3, 5] N (0 + n) c arcs A gI gO hs (by omega) (fun _ => some_of hA) rfl rfl rfl fun e J h1 hf h2 h3 => weaveEnd e h h1 N (0 + n) c arcs A gI gO J (by omega) hf h2 h3
          · conv => whnf
            refine EvMake.one N (.slice none 0 0) rfl rfl rfl rfl (by omega) (by omega) fun gO => ?_
            conv => whnf
            exact weaveLoop _ _ _ h [1, 5, 4, 3, 6] N (0 + n) c arcs A gI gO hs (by omega) (fun _ => some_of hA) rfl rfl rfl fun e J h1 hf h2 h3 => weaveEnd e h h1 N (0 + n) c arcs A gI gO J (by omega) hf h2 h3
        · conv => whnf
          refine And.intro ?_ ?_
          · conv => whnf
            refine EvMake.one N (.slice none 0 0) rfl rfl rfl rfl (by omega) (by omega) fun gO => ?_
            conv => whnf
            refine And.intro ?_ ?_
            · conv => whnf
              refine EvPub.mk fun b hb => ?_
              conv => whnf
              refine EvAppend.old 5 _ _ rfl (ht.src _) (arcs_one arcs) (by simp [maxLen]; omega) (by omega) fun A c hA => ?_
              conv => whnf
              exact weaveLoop _ _ _ h [1, 6, 5, 3, 4] N (0 + n) c arcs A gI gO hs (by omega) (fun _ => some_of hA) rfl rfl rfl fun e J h1 hf h2 h3 => weaveEnd e h h1 N (0 + n) c arcs A gI gO J (by omega) hf h2 h3
            · conv => whnf
              refine EvPub.mk fun b hb => ?_
              conv => whnf
              refine EvAppend.old 6 _ _ rfl (ht.src _) (arcs_one arcs) (by simp [maxLen]; omega) (by omega) fun A c hA => ?_
              conv => whnf
              exact weaveLoop _ _ _ h [1, 5, 6, 3, 4] N (0 + n) c arcs A gI gO hs (by omega) (fun _ => some_of hA) rfl rfl rfl fun e J h1 hf h2 h3 => weaveEnd e h h1 N (0 + n) c arcs A gI gO J (by omega) hf h2 h3
          · conv => whnf
            refine And.intro ?_ ?_
            · conv => whnf
              refine EvPub.mk fun b hb => ?_
              conv => whnf
              refine EvAppend.old 5 _ _ rfl (ht.src _) (arcs_one arcs) (by simp [maxLen]; omega) (by omega) fun A c hA => ?_
              conv => whnf
              refine EvMake.one N (.slice none 0 0) rfl rfl rfl rfl (by omega) (by omega) fun gO => ?_
              conv => whnf
              exact weaveLoop _ _ _ h [1, 4, 5, 3, 6] N (0 + n) c arcs A gI gO hs (by omega) (fun _ => some_of hA) rfl rfl rfl fun e J h1 hf h2 h3 => weaveEnd e h h1 N (0 + n) c arcs A gI gO J (by omega) hf h2 h3
            · conv => whnf
              refine EvMake.one N (.slice none 0 0) rfl rfl rfl rfl (by omega) (by omega) fun gO => ?_
              conv => whnf
              refine EvPub.mk fun b hb => ?_
              conv => whnf
              refine EvAppend.old 6 _ _ rfl (ht.src _) (arcs_one arcs) (by simp [maxLen]; omega) (by omega) fun A c hA => ?_
              conv => whnf
              exact weaveLoop _ _ _ h [1, 4, 6, 3, 5] N (0 + n) c arcs A gI gO hs (by omega) (fun _ => some_of hA) rfl rfl rfl fun e J h1 hf h2 h3 => weaveEnd e h h1 N (0 + n) c arcs A gI gO J (by omega) hf h2 h3
      · conv => whnf
        refine And.intro ?_ ?_
        · conv => whnf
          refine EvMake.one N (.slice none 0 0) rfl rfl rfl rfl (by omega) (by omega) fun gO => ?_
          conv => whnf
          refine And.intro ?_ ?_
          · conv => whnf
            refine EvPub.mk fun b hb => ?_
            conv => whnf
            refine EvAppend.old 4 _ _ rfl (ht.src _) (arcs_one arcs) (by simp [maxLen]; omega) (by omega) fun A c hA => ?_
            conv => whnf
            refine And.intro ?_ ?_
            · conv => whnf
              refine EvMake.one N (.slice none 0 0) rfl rfl rfl rfl (by omega) (by omega) fun gI => ?_
              conv => whnf
              exact weaveLoop _ _ _ h [1, 6, 4, 5, 3] N (0 + n) c arcs A gI gO hs (by omega) (fun _ => some_of hA) rfl rfl rfl fun e J h1 hf h2 h3 => weaveEnd e h h1 N (0 + n) c arcs A gI gO J (by omega) hf h2 h3
            · conv => whnf
              refine EvMake.one N (.slice none 0 0) rfl rfl rfl rfl (by omega) (by omega) fun gI => ?_
              conv => whnf
              exact weaveLoop _ _ _ h [1, 5, 4, 6, 3] N (0 + n) c arcs A gI gO hs (by omega) (fun _ => some_of hA) rfl rfl rfl fun e J h1 hf h2 h3 => weaveEnd e h h1 N (0 + n) c arcs A gI gO J (by omega) hf h2 h3
          · conv => whnf
            refine And.intro ?_ ?_
            · conv => whnf
              refine EvMake.one N (.slice none 0 0) rfl rfl rfl rfl (by omega) (by omega) fun gI => ?_
              conv => whnf
              refine And.intro ?_ ?_
              · conv => whnf
                refine EvPub.mk fun b hb => ?_
                conv => whnf
                refine EvAppend.old 5 _ _ rfl (ht.src _) (arcs_one arcs) (by simp [maxLen]; omega) (by omega) fun A c hA => ?_
                conv => whnf
                exact weaveLoop _ _ _ h [1, 6, 5, 4, 3] N (0 + n) c arcs A gI gO hs (by omega) (fun _ => some_of hA) rfl rfl rfl fun e J h1 hf h2 h3 => weaveEnd e h h1 N (0 + n) c arcs A gI gO J (by omega) hf h2 h3
              · conv => whnf
                refine EvPub.mk fun b hb => ?_
                conv => whnf
                refine EvAppend.old 6 _ _ rfl (ht.src _) (arcs_one arcs) (by simp [maxLen]; omega) (by omega) fun A c hA => ?_
                conv => whnf
                exact weaveLoop _ _ _ h [1, 5, 6, 4, 3] N (0 + n) c arcs A gI gO hs (by omega) (fun _ => some_of hA) rfl rfl rfl fun e J h1 hf h2 h3 => weaveEnd e h h1 N (0 + n) c arcs A gI gO J (by omega) hf h2 h3
            · conv => whnf
              refine And.intro ?_ ?_
              · conv => whnf
                refine EvPub.mk fun b hb => ?_
                conv => whnf
                refine EvAppend.old 5 _ _ rfl (ht.src _) (arcs_one arcs) (by simp [maxLen]; omega) (by omega) fun A c hA => ?_
                conv => whnf
                refine EvMake.one N (.slice none 0 0) rfl rfl rfl rfl (by omega) (by omega) fun gI => ?_
                conv => whnf
                exact weaveLoop _ _ _ h [1, 4, 5, 6, 3] N (0 + n) c arcs A gI gO hs (by omega) (fun _ => some_of hA) rfl rfl rfl fun e J h1 hf h2 h3 => weaveEnd e h h1 N (0 + n) c arcs A gI gO J (by omega) hf h2 h3
              · conv => whnf
                refine EvMake.one N (.slice none 0 0) rfl rfl rfl rfl (by omega) (by omega) fun gI => ?_
                conv => whnf
                refine EvPub.mk fun b hb => ?_
                conv => whnf
                refine EvAppend.old 6 _ _ rfl (ht.src _) (arcs_one arcs) (by simp [maxLen]; omega) (by omega) fun A c hA => ?_
                conv => whnf
                exact weaveLoop _ _ _ h [1, 4, 6, 5, 3] N (0 + n) c arcs A gI gO hs (by omega) (fun _ => some_of hA) rfl rfl rfl fun e J h1 hf h2 h3 => weaveEnd e h h1 N (0 + n) c arcs A gI gO J (by omega) hf h2 h3
        · conv => whnf
          refine And.intro ?_ ?_
          · conv => whnf
            refine EvPub.mk fun b hb => ?_
            conv => whnf
            refine EvAppend.old 4 _ _ rfl (ht.src _) (arcs_one arcs) (by simp [maxLen]; omega) (by omega) fun A c hA => ?_
            conv => whnf
            refine And.intro ?_ ?_
            · conv => whnf
              refine EvMake.one N (.slice none 0 0) rfl rfl rfl rfl (by omega) (by omega) fun gI => ?_
              conv => whnf
              refine EvMake.one N (.slice none 0 0) rfl rfl rfl rfl (by omega) (by omega) fun gO => ?_
              conv => whnf
              exact weaveLoop _ _ _ h [1, 3, 4, 5, 6] N (0 + n) c arcs A gI gO hs (by omega) (fun _ => some_of hA) rfl rfl rfl fun e J h1 hf h2 h3 => weaveEnd e h h1 N (0 + n) c arcs A gI gO J (by omega) hf h2 h3
            · conv => whnf
              refine EvMake.one N (.slice none 0 0) rfl rfl rfl rfl (by omega) (by omega) fun gO => ?_
              conv => whnf
              refine EvMake.one N (.slice none 0 0) rfl rfl rfl rfl (by omega) (by omega) fun gI => ?_
              conv => whnf
              exact weaveLoop _ _ _ h [1, 3, 4, 6, 5] N (0 + n) c arcs A gI gO hs (by omega) (fun _ => some_of hA) rfl rfl rfl fun e J h1 hf h2 h3 => weaveEnd e h h1 N (0 + n) c arcs A gI gO J (by omega) hf h2 h3
          · conv => whnf
            refine And.intro ?_ ?_
            · conv => whnf
              refine EvMake.one N (.slice none 0 0) rfl rfl rfl rfl (by omega) (by omega) fun gI => ?_
              conv => whnf
              refine And.intro ?_ ?_
              · conv => whnf
                refine EvPub.mk fun b hb => ?_
                conv => whnf
                refine EvAppend.old 5 _ _ rfl (ht.src _) (arcs_one arcs) (by simp [maxLen]; omega) (by omega) fun A c hA => ?_
                conv => whnf
                refine EvMake.one N (.slice none 0 0) rfl rfl rfl rfl (by omega) (by omega) fun gO => ?_
                conv => whnf
                exact weaveLoop _ _ _ h [1, 3, 5, 4, 6] N (0 + n) c arcs A gI gO hs (by omega) (fun _ => some_of hA) rfl rfl rfl fun e J h1 hf h2 h3 => weaveEnd e h h1 N (0 + n) c arcs A gI gO J (by omega) hf h2 h3
              · conv => whnf
                refine EvMake.one N (.slice none 0 0) rfl rfl rfl rfl (by omega) (by omega) fun gO => ?_
                conv => whnf
                refine EvPub.mk fun b hb => ?_
                conv => whnf
                refine EvAppend.old 6 _ _ rfl (ht.src _) (arcs_one arcs) (by simp [maxLen]; omega) (by omega) fun A c hA => ?_
                conv => whnf
                exact weaveLoop _ _ _ h [1, 3, 6, 4, 5] N (0 + n) c arcs A gI gO hs (by omega) (fun _ => some_of hA) rfl rfl rfl fun e J h1 hf h2 h3 => weaveEnd e h h1 N (0 + n) c arcs A gI gO J (by omega) hf h2 h3
            · conv => whnf
              refine EvMake.one N (.slice none 0 0) rfl rfl rfl rfl (by omega) (by omega) fun gO => ?_
              conv => whnf
              refine And.intro ?_ ?_
              · conv => whnf
                refine EvPub.mk fun b hb => ?_
                conv => whnf
                refine EvAppend.old 5 _ _ rfl (ht.src _) (arcs_one arcs) (by simp [maxLen]; omega) (by omega) fun A c hA => ?_
                conv => whnf
                refine EvMake.one N (.slice none 0 0) rfl rfl rfl rfl (by omega) (by omega) fun gI => ?_
                conv => whnf
                exact weaveLoop _ _ _ h [1, 3, 5, 6, 4] N (0 + n) c arcs A gI gO hs (by omega) (fun _ => some_of hA) rfl rfl rfl fun e J h1 hf h2 h3 => weaveEnd e h h1 N (0 + n) c arcs A gI gO J (by omega) hf h2 h3
              · conv => whnf
                refine EvMake.one N (.slice none 0 0) rfl rfl rfl rfl (by omega) (by omega) fun gI => ?_
                conv => whnf
                refine EvPub.mk fun b hb => ?_
                conv => whnf
                refine EvAppend.old 6 _ _ rfl (ht.src _) (arcs_one arcs) (by simp [maxLen]; omega) (by omega) fun A c hA => ?_
                conv => whnf
                exact weaveLoop _ _ _ h [1, 3, 6, 5, 4] N (0 + n) c arcs A gI gO hs (by omega) (fun _ => some_of hA) rfl rfl rfl fun e J h1 hf h2 h3 => weaveEnd e h h1 N (0 + n) c arcs A gI gO J (by omega) hf h2 h3
  · conv => whnf
    refine And.intro ?_ ?_
    · conv => whnf
      refine EvMake.one N (.slice none 0 0) rfl rfl rfl rfl (by omega) (by omega) fun gI => ?_
      conv => whnf
      refine And.intro ?_ ?_
      · conv => whnf
        refine And.intro ?_ ?_
        · conv => whnf
          refine EvPub.mk fun b hb => ?_
          conv => whnf
          refine EvAppend.old 4 _ _ rfl (ht.src _) (arcs_one arcs) (by simp [maxLen]; omega) (by omega) fun A c hA => ?_
          conv => whnf
          refine And.intro ?_ ?_
          · conv => whnf
            refine EvMake.one N (.slice none 0 0) rfl rfl rfl rfl (by omega) (by omega) fun gO => ?_
            conv => whnf
            exact weaveLoop _ _ _ h [1, 6, 4, 2, 5] N (0 + n) c arcs A gI gO hs (by omega) (fun _ => some_of hA) rfl rfl rfl fun e J h1 hf h2 h3 => weaveEnd e h h1 N (0 + n) c arcs A gI gO J (by omega) hf h2 h3
          · conv => whnf
            refine EvMake.one N (.slice none 0 0) rfl rfl rfl rfl (by omega) (by omega) fun gO => ?_
            conv => whnf
            exact weaveLoop _ _ _ h [1, 5, 4, 2, 6] N (0 + n) c arcs A gI gO hs (by omega) (fun _ => some_of hA) rfl rfl rfl fun e J h1 hf h2 h3 => weaveEnd e h h1 N (0 + n) c arcs A gI gO J (by omega) hf h2 h3
        · conv => whnf
          refine And.intro ?_ ?_
          · conv => whnf
            refine EvMake.one N (.slice none 0 0) rfl rfl rfl rfl (by omega) (by omega) fun gO => ?_
            conv => whnf
            refine And.intro ?_ ?_
            · conv => whnf
              refine EvPub.mk fun b hb => ?_
              conv => whnf
              refine EvAppend.old 5 _ _ rfl (ht.src _) (arcs_one arcs) (by simp [maxLen]; omega) (by omega) fun A c hA => ?_
              conv => whnf
              exact weaveLoop _ _ _ h [1, 6, 5, 2, 4] N (0 + n) c arcs A gI gO hs (by omega) (fun _ => some_of hA) rfl rfl rfl fun e J h1 hf h2 h3 => weaveEnd e h h1 N (0 + n) c arcs A gI gO J (by omega) hf h2 h3
            · conv => whnf
              refine EvPub.mk fun b hb => ?_
              conv => whnf
              refine EvAppend.old 6 _ _ rfl (ht.src _) (arcs_one arcs) (by simp [maxLen]; omega) (by omega) fun A c hA => ?_
              conv => whnf
              exact weaveLoop _ _ _ h [1, 5, 6, 2, 4] N (0 + n) c arcs A gI gO hs (by omega) (fun _ => some_of hA) rfl rfl rfl fun e J h1 hf h2 h3 => weaveEnd e h h1 N (0 + n) c arcs A gI gO J (by omega) hf h2 h3
          · conv => whnf
            refine And.intro ?_ ?_
            · conv => whnf
              refine EvPub.mk fun b hb => ?_
              conv => whnf
              refine EvAppend.old 5 _ _ rfl (ht.src _) (arcs_one arcs) (by simp [maxLen]; omega) (by omega) fun A c hA => ?_
              conv => whnf
              refine EvMake.one N (.slice none 0 0) rfl rfl rfl rfl (by omega) (by omega) fun gO => ?_
              conv => whnf
              exact weaveLoop _ _ _ h [1, 4, 5, 2, 6] N (0 + n) c arcs A gI gO hs (by omega) (fun _ => some_of hA) rfl rfl rfl fun e J h1 hf h2 h3 => weaveEnd e h h1 N (0 + n) c arcs A gI gO J (by omega) hf h2 h3
            · conv => whnf
              refine EvMake.one N (.slice none 0 0) rfl rfl rfl rfl (by omega) (by omega) fun gO => ?_
              conv => whnf
              refine EvPub.mk fun b hb => ?_
              conv => whnf
              refine EvAppend.old 6 _ _ rfl (ht.src _) (arcs_one arcs) (by simp [maxLen]; omega) (by omega) fun A c hA => ?_
              conv => whnf
              exact weaveLoop _ _ _ h [1, 4, 6, 2, 5] N (0 + n) c arcs A gI gO hs (by omega) (fun _ => some_of hA) rfl rfl rfl fun e J h1 hf h2 h3 => weaveEnd e h h1 N (0 + n) c arcs A gI gO J (by omega) hf h2 h3
      · conv => whnf
        refine And.intro ?_ ?_
        · conv => whnf
          refine EvMake.one N (.slice none 0 0) rfl rfl rfl rfl (by omega) (by omega) fun gO => ?_
          conv => whnf
          refine And.intro ?_ ?_
          · conv => whnf
            refine And.intro ?_ ?_
            · conv => whnf
              refine EvPub.mk fun b hb => ?_
              conv => whnf
              refine EvAppend.old 5 _ _ rfl (ht.src _) (arcs_one arcs) (by simp [maxLen]; omega) (by omega) fun A c hA => ?_
              conv => whnf
              exact weaveLoop _ _ _ h [1, 6, 5, 2, 3] N (0 + n) c arcs A gI gO hs (by omega) (fun _ => some_of hA) rfl rfl rfl fun e J h1 hf h2 h3 => weaveEnd e h h1 N (0 + n) c arcs A gI gO J (by omega) hf h2 h3
            · conv => whnf
              refine EvPub.mk fun b hb => ?_
              conv => whnf
              refine EvAppend.old 6 _ _ rfl (ht.src _) (arcs_one arcs) (by simp [maxLen]; omega) (by omega) fun A c hA => ?_
              conv => whnf
              exact weaveLoop _ _ _ h [1, 5, 6, 2, 3] N (0 + n) c arcs A gI gO hs (by omega) (fun _ => some_of hA) rfl rfl rfl fun e J h1 hf h2 h3 => weaveEnd e h h1 N (0 + n) c arcs A gI gO J (by omega) hf h2 h3
          · conv => whnf
            refine EvPub.mk fun b hb => ?_
            conv => whnf
            refine EvAppend.old 6 _ _ rfl (ht.src _) (arcs_one arcs) (by simp [maxLen]; omega) (by omega) fun A c hA => ?_
            conv => whnf
            exact weaveLoop _ _ _ h [1, 4, 6, 2, 3] N (0 + n) c arcs A gI gO hs (by omega) (fun _ => some_of hA) rfl rfl rfl fun e J h1 hf h2 h3 => weaveEnd e h h1 N (0 + n) c arcs A gI gO J (by omega) hf h2 h3
        · conv => whnf
          refine And.intro ?_ ?_
          · conv => whnf
            refine And.intro ?_ ?_
            · conv => whnf
              refine EvPub.mk fun b hb => ?_
              conv => whnf
              refine EvAppend.old 5 _ _ rfl (ht.src _) (arcs_one arcs) (by simp [maxLen]; omega) (by omega) fun A c hA => ?_
              conv => whnf
              refine EvMake.one N (.slice none 0 0) rfl rfl rfl rfl (by omega) (by omega) fun gO => ?_
              conv => whnf
              exact weaveLoop _ _ _ h [1, 3, 5, 2, 6] N (0 + n) c arcs A gI gO hs (by omega) (fun _ => some_of hA) rfl rfl rfl fun e J h1 hf h2 h3 => weaveEnd e h h1 N (0 + n) c arcs A gI gO J (by omega) hf h2 h3
            · conv => whnf
              refine EvMake.one N (.slice none 0 0) rfl rfl rfl rfl (by omega) (by omega) fun gO => ?_
              conv => whnf
              refine EvPub.mk fun b hb => ?_
              conv => whnf
              refine EvAppend.old 6 _ _ rfl (ht.src _) (arcs_one arcs) (by simp [maxLen]; omega) (by omega) fun A c hA => ?_
              conv => whnf
              exact weaveLoop _ _ _ h [1, 3, 6, 2, 5] N (0 + n) c arcs A gI gO hs (by omega) (fun _ => some_of hA) rfl rfl rfl fun e J h1 hf h2 h3 => weaveEnd e h h1 N (0 + n) c arcs A gI gO J (by omega) hf h2 h3
          · conv => whnf
            refine EvMake.one N (.slice none 0 0) rfl rfl rfl rfl (by omega) (by omega) fun gO => ?_
            conv => whnf
            refine EvPub.mk fun b hb => ?_
            conv => whnf
            refine EvAppend.old 6 _ _ rfl (ht.src _) (arcs_one arcs) (by simp [maxLen]; omega) (by omega) fun A c hA => ?_
            conv => whnf
            exact weaveLoop _ _ _ h [1, 3, 6, 2, 4] N (0 + n) c arcs A gI gO hs (by omega) (fun _ => some_of hA) rfl rfl rfl fun e J h1 hf h2 h3 => weaveEnd e h h1 N (0 + n) c arcs A gI gO J (by omega) hf h2 h3
    · conv => whnf
      refine And.intro ?_ ?_
      · conv => whnf
        refine EvMake.one N (.slice none 0 0) rfl rfl rfl rfl (by omega) (by omega) fun gO => ?_
        conv => whnf
        refine And.intro ?_ ?_
        · conv => whnf
          refine And.intro ?_ ?_
          · conv => whnf
            refine EvPub.mk fun b hb => ?_
            conv => whnf
            refine EvAppend.old 4 _ _ rfl (ht.src _) (arcs_one arcs) (by simp [maxLen]; omega) (by omega) fun A c hA => ?_
            conv => whnf
            refine And.intro ?_ ?_
            · conv => whnf
              refine EvMake.one N (.slice none 0 0) rfl rfl rfl rfl (by omega) (by omega) fun gI => ?_
              conv => whnf
              exact weaveLoop _ _ _ h [1, 6, 4, 5, 2] N (0 + n) c arcs A gI gO hs (by omega) (fun _ => some_of hA) rfl rfl rfl fun e J h1 hf h2 h3 => weaveEnd e h h1 N (0 + n) c arcs A gI gO J (by omega) hf h2 h3
            · conv => whnf
              refine EvMake.one N (.slice none 0 0) rfl rfl rfl rfl (by omega) (by omega) fun gI => ?_
              conv => whnf
              exact weaveLoop _ _ _ h [1, 5, 4, 6, 2] N (0 + n) c arcs A gI gO hs (by omega) (fun _ => some_of hA) rfl rfl rfl fun e J h1 hf h2 h3 => weaveEnd e h h1 N (0 + n) c arcs A gI gO J (by omega) hf h2 h3
          · conv => whnf
            refine And.intro ?_ ?_
            · conv => whnf
              refine EvMake.one N (.slice none 0 0) rfl rfl rfl rfl (by omega) (by omega) fun gI => ?_
              conv => whnf
              refine And.intro ?_ ?_
              · conv => whnf
                refine EvPub.mk fun b hb => ?_
                conv => whnf
                refine EvAppend.old 5 _ _ rfl (ht.src _) (arcs_one arcs) (by simp [maxLen]; omega) (by omega) fun A c hA => ?_
                conv => whnf
                exact weaveLoop _ _ _ h [1, 6, 5, 4, 2] N (0 + n) c arcs A gI gO hs (by omega) (fun _ => some_of hA) rfl rfl rfl fun e J h1 hf h2 h3 => weaveEnd e h h1 N (0 + n) c arcs A gI gO J (by omega) hf h2 h3
              · conv => whnf
                refine EvPub.mk fun b hb => ?_
                conv => whnf
                refine EvAppend.old 6 _ _ rfl (ht.src _) (arcs_one arcs) (by simp [maxLen]; omega) (by omega) fun A c hA => ?_
                conv => whnf
                exact weaveLoop _ _ _ h [1, 5, 6, 4, 2] N (0 + n) c arcs A gI gO hs (by omega) (fun _ => some_of hA) rfl rfl rfl fun e J h1 hf h2 h3 => weaveEnd e h h1 N (0 + n) c arcs A gI gO J (by omega) hf h2 h3
            · conv => whnf
              refine And.intro ?_ ?_
              · conv => whnf
                refine EvPub.mk fun b hb => ?_
                conv => whnf
                refine EvAppend.old 5 _ _ rfl (ht.src _) (arcs_one arcs) (by simp [maxLen]; omega) (by omega) fun A c hA => ?_
                conv => whnf
                refine EvMake.one N (.slice none 0 0) rfl rfl rfl rfl (by omega) (by omega) fun gI => ?_
                conv => whnf
                exact weaveLoop _ _ _ h [1, 4, 5, 6, 2] N (0 + n) c arcs A gI gO hs (by omega) (fun _ => some_of hA) rfl rfl rfl fun e J h1 hf h2 h3 => weaveEnd e h h1 N (0 + n) c arcs A gI gO J (by omega) hf h2 h3
              · conv => whnf
                refine EvMake.one N (.slice none 0 0) rfl rfl rfl rfl (by omega) (by omega) fun gI => ?_
                conv => whnf
                refine EvPub.mk fun b hb => ?_
                conv => whnf
                refine EvAppend.old 6 _ _ rfl (ht.src _) (arcs_one arcs) (by simp [maxLen]; omega) (by omega) fun A c hA => ?_
                conv => whnf
                exact weaveLoop _ _ _ h [1, 4, 6, 5, 2] N (0 + n) c arcs A gI gO hs (by omega) (fun _ => some_of hA) rfl rfl rfl fun e J h1 hf h2 h3 => weaveEnd e h h1 N (0 + n) c arcs A gI gO J (by omega) hf h2 h3
        · conv => whnf
          refine And.intro ?_ ?_
          · conv => whnf
            refine EvMake.one N (.slice none 0 0) rfl rfl rfl rfl (by omega) (by omega) fun gI => ?_
            conv => whnf
            refine And.intro ?_ ?_
            · conv => whnf
              refine And.intro ?_ ?_
              · conv => whnf
                refine EvPub.mk fun b hb => ?_
                conv => whnf
                refine EvAppend.old 5 _ _ rfl (ht.src _) (arcs_one arcs) (by simp [maxLen]; omega) (by omega) fun A c hA => ?_
                conv => whnf
                exact weaveLoop _ _ _ h [1, 6, 5, 3, 2] N (0 + n) c arcs A gI gO hs (by omega) (fun _ => some_of hA) rfl rfl rfl fun e J h1 hf h2 h3 => weaveEnd e h h1 N (0 + n) c arcs A gI gO J (by omega) hf h2 h3
              · conv => whnf
                refine EvPub.mk fun b hb => ?_
                conv => whnf
                refine EvAppend.old 6 _ _ rfl (ht.src _) (arcs_one arcs) (by simp [maxLen]; omega) (by omega) fun A c hA => ?_
                conv => whnf
                exact weaveLoop _ _ _ h [1, 5, 6, 3, 2] N (0 + n) c arcs A gI gO hs (by omega) (fun _ => some_of hA) rfl rfl rfl fun e J h1 hf h2 h3 => weaveEnd e h h1 N (0 + n) c arcs A gI gO J (by omega) hf h2 h3
            · conv => whnf
              refine EvPub.mk fun b hb => ?_
              conv => whnf
              refine EvAppend.old 6 _ _ rfl (ht.src _) (arcs_one arcs) (by simp [maxLen]; omega) (by omega) fun A c hA => ?_
              conv => whnf
              exact weaveLoop _ _ _ h [1, 4, 6, 3, 2] N (0 + n) c arcs A gI gO hs (by omega) (fun _ => some_of hA) rfl rfl rfl fun e J h1 hf h2 h3 => weaveEnd e h h1 N (0 + n) c arcs A gI gO J (by omega) hf h2 h3
          · conv => whnf
            refine And.intro ?_ ?_
            · conv => whnf
              refine And.intro ?_ ?_
              · conv => whnf
                refine EvPub.mk fun b hb => ?_
                conv => whnf
                refine EvAppend.old 5 _ _ rfl (ht.src _) (arcs_one arcs) (by simp [maxLen]; omega) (by omega) fun A c hA => ?_
                conv => whnf
                refine EvMake.one N (.slice none 0 0) rfl rfl rfl rfl (by omega) (by omega) fun gI => ?_
                conv => whnf
                exact weaveLoop _ _ _ h [1, 3, 5, 6, 2] N (0 + n) c arcs A gI gO hs (by omega) (fun _ => some_of hA) rfl rfl rfl fun e J h1 hf h2 h3 => weaveEnd e h h1 N (0 + n) c arcs A gI gO J (by omega) hf h2 h3
              · conv => whnf
                refine EvMake.one N (.slice none 0 0) rfl rfl rfl rfl (by omega) (by omega) fun gI => ?_
                conv => whnf
                refine EvPub.mk fun b hb => ?_
                conv => whnf
                refine EvAppend.old 6 _ _ rfl (ht.src _) (arcs_one arcs) (by simp [maxLen]; omega) (by omega) fun A c hA => ?_
                conv => whnf
                exact weaveLoop _ _ _ h [1, 3, 6, 5, 2] N (0 + n) c arcs A gI gO hs (by omega) (fun _ => some_of hA) rfl rfl rfl fun e J h1 hf h2 h3 => weaveEnd e h h1 N (0 + n) c arcs A gI gO J (by omega) hf h2 h3
            · conv => whnf
              refine EvMake.one N (.slice none 0 0) rfl rfl rfl rfl (by omega) (by omega) fun gI => ?_
              conv => whnf
              refine EvPub.mk fun b hb => ?_
              conv => whnf
              refine EvAppend.old 6 _ _ rfl (ht.src _) (arcs_one arcs) (by simp [maxLen]; omega) (by omega) fun A c hA => ?_
              conv => whnf
              exact weaveLoop _ _ _ h [1, 3, 6, 4, 2] N (0 + n) c arcs A gI gO hs (by omega) (fun _ => some_of hA) rfl rfl rfl fun e J h1 hf h2 h3 => weaveEnd e h h1 N (0 + n) c arcs A gI gO J (by omega) hf h2 h3
      · conv => whnf
        refine And.intro ?_ ?_
        · conv => whnf
          refine And.intro ?_ ?_
          · conv => whnf
            refine EvPub.mk fun b hb => ?_
            conv => whnf
            refine EvAppend.old 4 _ _ rfl (ht.src _) (arcs_one arcs) (by simp [maxLen]; omega) (by omega) fun A c hA => ?_
            conv => whnf
            refine And.intro ?_ ?_
            · conv => whnf
              refine EvMake.one N (.slice none 0 0) rfl rfl rfl rfl (by omega) (by omega) fun gI => ?_
              conv => whnf
              refine EvMake.one N (.slice none 0 0) rfl rfl rfl rfl (by omega) (by omega) fun gO => ?_
              conv => whnf
              exact weaveLoop _ _ _ h [1, 2, 4, 5, 6] N (0 + n) c arcs A gI gO hs (by omega) (fun _ => some_of hA) rfl rfl rfl fun e J h1 hf h2 h3 => weaveEnd e h h1 N (0 + n) c arcs A gI gO J (by omega) hf h2 h3
            · conv => whnf
              refine EvMake.one N (.slice none 0 0) rfl rfl rfl rfl (by omega) (by omega) fun gO => ?_
              conv => whnf
              refine EvMake.one N (.slice none 0 0) rfl rfl rfl rfl (by omega) (by omega) fun gI => ?_
              conv => whnf
              exact weaveLoop _ _ _ h [1, 2, 4, 6, 5] N (0 + n) c arcs A gI gO hs (by omega) (fun _ => some_of hA) rfl rfl rfl fun e J h1 hf h2 h3 => weaveEnd e h h1 N (0 + n) c arcs A gI gO J (by omega) hf h2 h3
          · conv => whnf
            refine And.intro ?_ ?_
            · conv => whnf
              refine EvMake.one N (.slice none 0 0) rfl rfl rfl rfl (by omega) (by omega) fun gI => ?_
              conv => whnf
              refine And.intro ?_ ?_
              · conv => whnf
                refine EvPub.mk fun b hb => ?_
                conv => whnf
                refine EvAppend.old 5 _ _ rfl (ht.src _) (arcs_one arcs) (by simp [maxLen]; omega) (by omega) fun A c hA => ?_
                conv => whnf
                refine EvMake.one N (.slice none 0 0) rfl rfl rfl rfl (by omega) (by omega) fun gO => ?_
                conv => whnf
                exact weaveLoop _ _ _ h [1, 2, 5, 4, 6] N (0 + n) c arcs A gI gO hs (by omega) (fun _ => some_of hA) rfl rfl rfl fun e J h1 hf h2 h3 => weaveEnd e h h1 N (0 + n) c arcs A gI gO J (by omega) hf h2 h3
              · conv => whnf
                refine EvMake.one N (.slice none 0 0) rfl rfl rfl rfl (by omega) (by omega) fun gO => ?_
                conv => whnf
                refine EvPub.mk fun b hb => ?_
                conv => whnf
                refine EvAppend.old 6 _ _ rfl (ht.src _) (arcs_one arcs) (by simp [maxLen]; omega) (by omega) fun A c hA => ?_
                conv => whnf
                exact weaveLoop _ _ _ h [1, 2, 6, 4, 5] N (0 + n) c arcs A gI gO hs (by omega) (fun _ => some_of hA) rfl rfl rfl fun e J h1 hf h2 h3 => weaveEnd e h h1 N (0 + n) c arcs A gI gO J (by omega) hf h2 h3
            · conv => whnf
              refine EvMake.one N (.slice none 0 0) rfl rfl rfl rfl (by omega) (by omega) fun gO => ?_
              conv => whnf
              refine And.intro ?_ ?_
              · conv => whnf
                refine EvPub.mk fun b hb => ?_
                conv => whnf
                refine EvAppend.old 5 _ _ rfl (ht.src _) (arcs_one arcs) (by simp [maxLen]; omega) (by omega) fun A c hA => ?_
                conv => whnf
                refine EvMake.one N (.slice none 0 0) rfl rfl rfl rfl (by omega) (by omega) fun gI => ?_
                conv => whnf
                exact weaveLoop _ _ _ h [1, 2, 5, 6, 4] N (0 + n) c arcs A gI gO hs (by omega) (fun _ => some_of hA) rfl rfl rfl fun e J h1 hf h2 h3 => weaveEnd e h h1 N (0 + n) c arcs A gI gO J (by omega) hf h2 h3
              · conv => whnf
                refine EvMake.one N (.slice none 0 0) rfl rfl rfl rfl (by omega) (by omega) fun gI => ?_
                conv => whnf
                refine EvPub.mk fun b hb => ?_
                conv => whnf
                refine EvAppend.old 6 _ _ rfl (ht.src _) (arcs_one arcs) (by simp [maxLen]; omega) (by omega) fun A c hA => ?_
                conv => whnf
                exact weaveLoop _ _ _ h [1, 2, 6, 5, 4] N (0 + n) c arcs A gI gO hs (by omega) (fun _ => some_of hA) rfl rfl rfl fun e J h1 hf h2 h3 => weaveEnd e h h1 N (0 + n) c arcs A gI gO J (by omega) hf h2 h3
        · conv => whnf
          refine And.intro ?_ ?_
          · conv => whnf
            refine EvMake.one N (.slice none 0 0) rfl rfl rfl rfl (by omega) (by omega) fun gI => ?_
            conv => whnf
            refine And.intro ?_ ?_
            · conv => whnf
              refine And.intro ?_ ?_
              · conv => whnf
                refine EvPub.mk fun b hb => ?_
                conv => whnf
                refine EvAppend.old 5 _ _ rfl (ht.src _) (arcs_one arcs) (by simp [maxLen]; omega) (by omega) fun A c hA => ?_
                conv => whnf
                refine EvMake.one N (.slice none 0 0) rfl rfl rfl rfl (by omega) (by omega) fun gO => ?_
                conv => whnf
                exact weaveLoop _ _ _ h [1, 2, 5, 3, 6] N (0 + n) c arcs A gI gO hs (by omega) (fun _ => some_of hA) rfl rfl rfl fun e J h1 hf h2 h3 => weaveEnd e h h1 N (0 + n) c arcs A gI gO J (by omega) hf h2 h3
              · conv => whnf
                refine EvMake.one N (.slice none 0 0) rfl rfl rfl rfl (by omega) (by omega) fun gO => ?_
                conv => whnf
                refine EvPub.mk fun b hb => ?_
                conv => whnf
                refine EvAppend.old 6 _ _ rfl (ht.src _) (arcs_one arcs) (by simp [maxLen]; omega) (by omega) fun A c hA => ?_
                conv => whnf
                exact weaveLoop _ _ _ h [1, 2, 6, 3, 5] N (0 + n) c arcs A gI gO hs (by omega) (fun _ => some_of hA) rfl rfl rfl fun e J h1 hf h2 h3 => weaveEnd e h h1 N (0 + n) c arcs A gI gO J (by omega) hf h2 h3
            · conv => whnf
              refine EvMake.one N (.slice none 0 0) rfl rfl rfl rfl (by omega) (by omega) fun gO => ?_
              conv => whnf
              refine EvPub.mk fun b hb => ?_
              conv => whnf
              refine EvAppend.old 6 _ _ rfl (ht.src _) (arcs_one arcs) (by simp [maxLen]; omega) (by omega) fun A c hA => ?_
              conv => whnf
              exact weaveLoop _ _ _ h [1, 2, 6, 3, 4] N (0 + n) c arcs A gI gO hs (by omega) (fun _ => some_of hA) rfl rfl rfl fun e J h1 hf h2 h3 => weaveEnd e h h1 N (0 + n) c arcs A gI gO J (by omega) hf h2 h3
          · conv => whnf
            refine EvMake.one N (.slice none 0 0) rfl rfl rfl rfl (by omega) (by omega) fun gO => ?_
            conv => whnf
            refine And.intro ?_ ?_
            · conv => whnf
              refine And.intro ?_ ?_
              · conv => whnf
                refine EvPub.mk fun b hb => ?_
                conv => whnf
                refine EvAppend.old 5 _ _ rfl (ht.src _) (arcs_one arcs) (by simp [maxLen]; omega) (by omega) fun A c hA => ?_
                conv => whnf
                refine EvMake.one N (.slice none 0 0) rfl rfl rfl rfl (by omega) (by omega) fun gI => ?_
                conv => whnf
                exact weaveLoop _ _ _ h [1, 2, 5, 6, 3] N (0 + n) c arcs A gI gO hs (by omega) (fun _ => some_of hA) rfl rfl rfl fun e J h1 hf h2 h3 => weaveEnd e h h1 N (0 + n) c arcs A gI gO J (by omega) hf h2 h3
              · conv => whnf
                refine EvMake.one N (.slice none 0 0) rfl rfl rfl rfl (by omega) (by omega) fun gI => ?_
                conv => whnf
                refine EvPub.mk fun b hb => ?_
                conv => whnf
                refine EvAppend.old 6 _ _ rfl (ht.src _) (arcs_one arcs) (by simp [maxLen]; omega) (by omega) fun A c hA => ?_
                conv => whnf
                exact weaveLoop _ _ _ h [1, 2, 6, 5, 3] N (0 + n) c arcs A gI gO hs (by omega) (fun _ => some_of hA) rfl rfl rfl fun e J h1 hf h2 h3 => weaveEnd e h h1 N (0 + n) c arcs A gI gO J (by omega) hf h2 h3
            · conv => whnf
              refine EvMake.one N (.slice none 0 0) rfl rfl rfl rfl (by omega) (by omega) fun gI => ?_
              conv => whnf
              refine EvPub.mk fun b hb => ?_
              conv => whnf
              refine EvAppend.old 6 _ _ rfl (ht.src _) (arcs_one arcs) (by simp [maxLen]; omega) (by omega) fun A c hA => ?_
              conv => whnf
              exact weaveLoop _ _ _ h [1, 2, 6, 4, 3] N (0 + n) c arcs A gI gO hs (by omega) (fun _ => some_of hA) rfl rfl rfl fun e J h1 hf h2 h3 => weaveEnd e h h1 N (0 + n) c arcs A gI gO J (by omega) hf h2 h3
end Go.Sx
