/- StuckFree: the law's own function answers true. Conditions: none. -/
import Derived.Test.YtbgfmfgffooniaaS15
namespace Go.Sx
open Go.Proofs
theorem one_bad {N : Int} {arcs : List Arc} {b : Blk} (h : b.arc < 0 ∨ (arcs.length : Int) ≤ b.arc ∨ b.fired < 0 ∨ 4096 < b.fired ∨ ∃ hi : b.arc.toNat < arcs.length, arcs[b.arc.toNat].src ≠ b.node ∨ arcs[b.arc.toNat].dst ≠ b.node) : conf0 N arcs [b] = 140 := by
  unfold conf0
  rw [if_neg]
  rintro ⟨_, h1, _, h2⟩
  have h1 := ok1_iff.1 (h1 b (by simp))
  have h2 := h2 b (by simp)
  unfold ok2 at h2
  cases ha : arcOf arcs b with
  | none => rw [ha] at h2; cases h2
  | some a =>
    rw [ha] at h2
    simp only [Bool.and_eq_true, decide_eq_true_eq] at h2
    unfold arcOf at ha
    split at ha
    · rename_i h0
      obtain ⟨hi, rfl⟩ := List.getElem?_eq_some_iff.1 ha
      obtain ⟨z, hz⟩ := Option.isSome_iff_exists.1 h2.2
      obtain ⟨c, hc, hc1, _⟩ := firedOf_mem hz
      rw [List.mem_singleton] at hc
      subst hc
      rcases h with h | h | h | h | ⟨_, h | h⟩
      · omega
      · omega
      · omega
      · omega
      · exact h hc1.symm
      · exact h h2.1
    · cases ha
theorem one_good {N : Int} {arcs : List Arc} {b : Blk} (hs : chk N arcs = 0) (h0 : 0 ≤ b.arc) (hi : b.arc.toNat < arcs.length) (h1 : arcs[b.arc.toNat].src = b.node) (h2 : arcs[b.arc.toNat].dst = b.node) (h3 : 0 ≤ b.fired) (h4 : b.fired ≤ 4096) :
    conf0 N arcs [b] = if arcs[b.arc.toNat].take * (b.fired + 1) ≤ arcs[b.arc.toNat].start + arcs[b.arc.toNat].give * b.fired then 141 else 0 := by
  have ha : arcOf arcs b = some arcs[b.arc.toNat] := by rw [arcOf, if_pos h0, List.getElem?_eq_getElem hi]
  have hok := okArc_zero ((chk_zero hs).2.2.2 _ (List.getElem_mem hi))
  have hf : firedOf [b] arcs[b.arc.toNat].src = some b.fired := by rw [h1]; exact firedOf_of (by simp) (by simp)
  unfold conf0
  rw [if_pos]
  · simp only [List.any_cons, List.any_nil, Bool.or_false, loose1, ha, hf, Option.getD_some, decide_eq_true_eq]
  · refine ⟨by simp, fun c hc => ?_, by simp, fun c hc => ?_⟩
    · rw [List.mem_singleton] at hc; subst hc
      exact ok1_iff.2 (by omega)
    · rw [List.mem_singleton] at hc; subst hc
      simp [ok2, ha, hf, h2]
theorem law8 (N : Int) (A : Option Addr) (n cap : Nat) (arcs : List Arc) (b : Blk) (h : Hp) (ht : Tab h 5 A n (arcs.map Arc.cells)) (hn : n * 40 ≤ 140737488355328) :
    Fn Try.prog 8 #[netV N A n cap, .agg #[iv b.node, iv b.fired, iv b.arc]] h fun v h' => v = .bool true ∧ h.le h' := by
  have hla : arcs.length = n := by simpa using ht.len
  refine Fn.intro (args := [netV N A n cap, .agg #[iv b.node, iv b.fired, iv b.arc]]) mix14 Try.func8 rfl (by decide) Try.ntmps8 rfl (low8 rfl) rfl ?_
  conv => whnf
  refine .mk fun bk hbk => ?_
  conv => whnf
  refine .done (.mk _ (confirm11 N A _ n 1 cap 1 arcs [b] _ (ht.mono (Hp.le_put hbk)) (.lit put_at rfl (blks_wid _) rfl) (by omega) (by omega)) ?_)
  rintro _ h1 ⟨rfl, hle1⟩
  have hle1 := (Hp.le_put hbk).trans' hle1
  by_cases hs : chk N arcs = 0
  · have hN := chk_zero hs
    have hcf : conf N arcs [b] = conf0 N arcs [b] := by rw [conf, if_pos hs]
    rw [hcf]
    obtain ⟨N, rfl⟩ : ∃ q : Nat, N = q := ⟨N.toNat, by omega⟩
    conv => whnf
    refine .done (.mk _ (new16 N n cap arcs A h1 (ht.mono hle1) hn hs) ?_)
    rintro _ _ ⟨hF, bs, gt, gf, rfl, hleF, web, rfl⟩
    have a0 : At h hF bs gt gf N arcs (List.replicate N 0) 0 := ⟨hle1.trans' hleF, web, good_zero hs⟩
    have htF := ht.mono (a0.all (t := toksOf arcs (List.replicate N 0)))
    conv => whnf
    refine br_dec (fun c1 => ?_) (fun c1 => ?_)
    · rw [one_bad (.inl c1)]
      conv => whnf
      refine .done (.mk _ (awake15 _) ?_)
      rintro _ h9 ⟨rfl, hle9⟩
      conv => whnf
      exact .done ⟨rfl, a0.all.trans' hle9⟩
    conv => whnf
    refine br_dec (fun c2 => ?_) (fun c2 => ?_)
    · rw [one_bad (.inr (.inl (by omega)))]
      conv => whnf
      refine .done (.mk _ (awake15 _) ?_)
      rintro _ h9 ⟨rfl, hle9⟩
      conv => whnf
      exact .done ⟨rfl, a0.all.trans' hle9⟩
    have hi : b.arc.toNat < arcs.length := by omega
    have hok := okArc_zero ((chk_zero hs).2.2.2 _ (List.getElem_mem hi))
    obtain ⟨g, hg⟩ := ht.ad (by omega)
    conv => whnf
    refine .mk g hg (by omega) (by omega) ?_
    conv => whnf
    refine .hp (iv arcs[b.arc.toNat].src) (by rw [add_add]; exact htF.cell g hg _ _ (map_get hi) 0 _ rfl) ?_
    conv => whnf
    refine br_dec (fun c3 => ?_) (fun c3 => ?_)
    · rw [one_bad (.inr (.inr (.inr (.inr ⟨hi, .inl c3⟩))))]
      conv => whnf
      refine .done (.mk _ (awake15 _) ?_)
      rintro _ h9 ⟨rfl, hle9⟩
      conv => whnf
      exact .done ⟨rfl, a0.all.trans' hle9⟩
    conv => whnf
    refine .mk g hg (by omega) (by omega) ?_
    conv => whnf
    refine .hp (iv arcs[b.arc.toNat].dst) (by rw [add_add]; exact htF.cell g hg _ _ (map_get hi) 1 _ rfl) ?_
    conv => whnf
    refine br_dec (fun c4 => ?_) (fun c4 => ?_)
    · rw [one_bad (.inr (.inr (.inr (.inr ⟨hi, .inr c4⟩))))]
      conv => whnf
      refine .done (.mk _ (awake15 _) ?_)
      rintro _ h9 ⟨rfl, hle9⟩
      conv => whnf
      exact .done ⟨rfl, a0.all.trans' hle9⟩
    conv => whnf
    refine br_dec (fun c5 => ?_) (fun c5 => ?_)
    · rw [one_bad (.inr (.inr (.inl c5)))]
      conv => whnf
      refine .done (.mk _ (awake15 _) ?_)
      rintro _ h9 ⟨rfl, hle9⟩
      conv => whnf
      exact .done ⟨rfl, a0.all.trans' hle9⟩
    conv => whnf
    refine br_dec (fun c6 => ?_) (fun c6 => ?_)
    · rw [one_bad (.inr (.inr (.inr (.inl (by omega)))))]
      conv => whnf
      refine .done (.mk _ (awake15 _) ?_)
      rintro _ h9 ⟨rfl, hle9⟩
      conv => whnf
      exact .done ⟨rfl, a0.all.trans' hle9⟩
    have hc3 : arcs[b.arc.toNat].src = b.node := Decidable.not_not.1 c3
    have hc4 : arcs[b.arc.toNat].dst = b.node := Decidable.not_not.1 c4
    have hone := one_good hs (by omega) hi hc3 hc4 (by omega) (by omega)
    obtain ⟨p0, p1⟩ := bnd_mul (x := arcs[b.arc.toNat].give) (y := b.fired) (a := 64) (b := 4096) (by omega) (by omega) (by omega) (by omega)
    obtain ⟨p2, p3⟩ := bnd_mul (x := arcs[b.arc.toNat].take) (y := b.fired + 1) (a := 64) (b := 4097) (by omega) (by omega) (by omega) (by omega)
    conv => whnf
    refine .mk g hg (by omega) (by omega) ?_
    conv => whnf
    refine .hp arcs[b.arc.toNat].cells rfl (htF.row hg (map_get hi)) ?_
    conv => whnf
    refine .ok (by omega) (by omega) ?_
    conv => whnf
    refine .ok (by omega) (by omega) ?_
    conv => whnf
    refine .ok (by omega) (by omega) ?_
    conv => whnf
    refine .ok (by omega) (by omega) ?_
    conv => whnf
    refine br_dec (fun c7 => ?_) (fun c7 => ?_)
    · rw [if_pos (by omega)] at hone
      · rw [hone]
        conv => whnf
        refine .done (.mk _ (awake15 _) ?_)
        rintro _ h9 ⟨rfl, hle9⟩
        conv => whnf
        exact .done ⟨rfl, a0.all.trans' hle9⟩
    rw [if_neg (by omega)] at hone
    rw [hone]
    conv => whnf
    refine .mk (Nat × Hp × List Int) [2, 3, 5, 6, 9] (fun (i, _, _) => [.p 0 0, .p 1 0, .v (iv 0), .v (ptr bs), .v (iv i)]) (fun _ => [.own [.v (iv N), .v (.slice A n cap)] 24, .own [.v (iv b.node), .v (iv b.fired), .v (iv b.arc)] 36])
      (fun (i, hG, f) h' => h' = st hG gt gf (toksOf arcs f) f ∧ At h hG bs gt gf N arcs f i ∧ Held [b] f ∧ i ≤ 64) (fun (i, _, _) => 64 - i) (0, hF, List.replicate N 0) (fun (_, _, _) => rfl)
      ⟨rfl, a0, held_zero (conf0_zero hone).1.2.1 N, Nat.zero_le _⟩ rfl rfl ?_
    rintro ⟨i, hG, f⟩ e h' ⟨rfl, ha, hh, hi'⟩
    conv => whnf
    refine br_dec (fun c8 => ?_) (fun c8 => ?_)
    · conv => whnf
      refine br_dec (fun c9 => ?_) (fun c9 => ?_)
      · conv => whnf
        refine .mk fun bk hbk => ?_
        conv => whnf
        refine .done (.mk _ (fireOne hs ha (by omega) b.node hbk) ?_)
        rintro r1 _ ⟨hH, rfl, aH⟩
        have hheld := run_held hs hone [b.node] f i ha.good hh
        generalize (fireRun N arcs [b.node] f).2 = f2 at aH hheld
        conv => whnf
        refine .ok (by omega) (by omega) ?_
        conv => whnf
        exact ⟨(i + 1, hH, f2), rfl, rfl, ⟨rfl, aH, hheld, by omega⟩, by show 64 - (i + 1) < 64 - i; omega⟩
      · conv => whnf
        refine .done (.mk _ (firedAt hs ha) ?_)
        rintro _ _ ⟨hK, A2, c2, rfl, aK, rfl, hf2⟩
        have hfl := aK.good.len
        have hbound := hh b (by simp)
        obtain ⟨g4, hg4⟩ := hf2.ad (by omega)
        have hlt : b.node.toNat < f.length := by omega
        have hgd : f.getD b.node.toNat 0 = f[b.node.toNat] := by rw [List.getD_eq_getElem?_getD, List.getElem?_eq_getElem hlt]; rfl
        conv => whnf
        refine br_dec (fun _ => ?_) (fun q => (q rfl).elim)
        conv => whnf
        refine .mk g4 hg4 (by omega) (by omega) ?_
        conv => whnf
        refine .hp (iv f[b.node.toNat]) (hf2.one hg4 (r := [iv f[b.node.toNat]]) (by simp [hlt]) rfl) ?_
        conv => whnf
        refine br_dec (fun _ => ?_) (fun q => by omega)
        conv => whnf
        refine .mk _ (awake15 _) (fun _ _ q => q.2) ?_
        rintro _ h9 ⟨rfl, hle9⟩
        conv => whnf
        exact .done ⟨rfl, aK.all.trans' hle9⟩
    · conv => whnf
      refine .done (.mk _ (firedAt hs ha) ?_)
      rintro _ _ ⟨hK, A2, c2, rfl, aK, rfl, hf2⟩
      have hfl := aK.good.len
      have hbound := hh b (by simp)
      obtain ⟨g4, hg4⟩ := hf2.ad (by omega)
      have hlt : b.node.toNat < f.length := by omega
      have hgd : f.getD b.node.toNat 0 = f[b.node.toNat] := by rw [List.getD_eq_getElem?_getD, List.getElem?_eq_getElem hlt]; rfl
      conv => whnf
      refine br_dec (fun _ => ?_) (fun q => (q rfl).elim)
      conv => whnf
      refine .mk g4 hg4 (by omega) (by omega) ?_
      conv => whnf
      refine .hp (iv f[b.node.toNat]) (hf2.one hg4 (r := [iv f[b.node.toNat]]) (by simp [hlt]) rfl) ?_
      conv => whnf
      refine br_dec (fun _ => ?_) (fun q => by omega)
      conv => whnf
      refine .mk _ (awake15 _) (fun _ _ q => q.2) ?_
      rintro _ h9 ⟨rfl, hle9⟩
      conv => whnf
      exact .done ⟨rfl, aK.all.trans' hle9⟩
  · rw [conf, if_neg hs]
    conv => whnf
    refine .done (.mk _ (new16_bad N n cap arcs A h1 (ht.mono hle1) hn hs) ?_)
    rintro _ h2 ⟨rfl, rfl⟩
    conv => whnf
    refine br_dec (fun h1 => ?_) (fun h1 => absurd h1 (by simpa using hs))
    conv => whnf
    refine br_dec (fun _ => ?_) (fun q => (q rfl).elim)
    conv => whnf
    refine .done (.mk _ (awake15 _) ?_)
    rintro _ h9 ⟨rfl, hle9⟩
    conv => whnf
    exact .done ⟨rfl, hle1.trans' hle9⟩
end Go.Sx
