/- PeaksMost: the law's own function answers true. Conditions: none. -/
import Derived.Test.YtfdcoiiaiihdnaaN18U
import Derived.Test.YtfdcoiiaiihdnaaN18V
import Derived.Test.YtfdcoiiaiihdnaaN18L
namespace Go.Sx
open Go.Proofs
theorem famTwo {hc X1 X2 : Hp} (h1 : X1.le hc) (h2 : X2.le hc) (hd : ∀ j, X1 j ≠ none → X2 j = none) : FamA ((hc.minus X1).minus X2) hc 2 (fun i => if i = 0 then X1 else X2) := by
  refine ⟨fun j o e => (Hp.minus_some (Hp.minus_some e).2).2, fun i hi => ?_, fun i hi j hj => ?_, fun i k hi hk hik j hj => ?_⟩
  · split
    · exact h1
    · exact h2
  · skip
    by_cases q : X2 j = none
    · rw [Hp.minus_of q]
      split at hj
      · exact Hp.minus_in hj
      · exact absurd q hj
    · exact Hp.minus_in q
  · skip
    by_cases e1 : i = 0
    · rw [if_pos e1] at hj
      rw [if_neg (by omega)]; exact hd j hj
    · rw [if_neg e1] at hj
      rw [if_pos (by omega)]
      cases q : X1 j with
      | none => rfl
      | some o => exact absurd (hd j (by rw [q]; simp)) hj
theorem le_minus {h hc X : Hp} (l : h.le hc) (d : Disj h X) : h.le (hc.minus X) := fun j o e => by
  rw [Hp.minus_of (by
    cases q : X j with
    | none => rfl
    | some o' => rw [d j (by rw [q]; simp)] at e; cases e)]
  exact l j o e
theorem lawP4 (N : Int) (A D : Option Addr) (n r cap cap2 : Nat) (arcs : List Arc) (zs : List Int) (h : Hp) (ht : Tab h 5 A n (arcs.map Arc.cells)) (hz : Tab h 1 D r (zs.map fun z => [iv z]))
    (hn : n * 40 ≤ 140737488355328) (hr : r * 8 ≤ 140737488355328) :
    Fn Try.prog 4 #[netV N A n cap, .slice D r cap2] h fun v h' => v = .bool true ∧ h.le h' := by
  obtain rfl : arcs.length = n := by simpa using ht.len
  refine Fn.intro (args := [netV N A arcs.length cap, .slice D r cap2]) mix14 Try.func4 rfl (by decide) Try.ntmps4 rfl (low4 rfl) rfl ?_
  conv => whnf
  refine .done (.mk _ (lentNet10 N A arcs.length cap arcs h ht hn) ?_)
  rintro _ h1 ⟨l1, A1, c1, rfl, t1⟩
  conv => whnf
  refine .done (.mk _ (lent11 D r cap2 zs h1 (hz.mono l1) hr) ?_)
  rintro _ h2 ⟨l2, D2, rfl, t2⟩
  have t1 := t1.mono l2
  have ll2 := l1.trans' l2
  conv => whnf
  refine .done (.mk _ (most19 N arcs.length c1 arcs A1 D2 r (r + 4) zs h2 t1.tab (by omega) t2.tab) ?_)
  rintro v3 h3 ⟨l3, b3, g3⟩
  by_cases he : (along N arcs zs).1 = 0
  · obtain ⟨v3, X3, rfl, p3, x3, d3⟩ := g3 he
    obtain ⟨g3a, m3, rfl, pm3⟩ := p3.2 (along_ne he)
    have hs := (along_parts he).1
    have hNb := chk_zero hs
    conv => whnf
    refine .done (.mk _ (most19 N arcs.length c1 arcs A1 D2 r (r + 4) zs h3 (t1.mono l3).tab (by omega) (t2.mono l3).tab) ?_)
    rintro v4 h4 ⟨l4, b4, g4⟩
    obtain ⟨v4, X4, rfl, p4, x4, d4⟩ := g4 he
    obtain ⟨g4a, m4, rfl, pm4⟩ := p4.2 (along_ne he)
    have ll4 := ll2.trans' (l3.trans' l4)
    conv => whnf
    refine .done (.mk _ (most20 N arcs.length cap arcs A D r cap2 zs h4 (ht.mono ll4) (by omega) (hz.mono ll4)) ?_)
    rintro v5 h5 ⟨l5, _, g5⟩
    obtain ⟨B5, c5, rfl, t5⟩ := g5 he
    have r3 := pm3.mono (x3.trans' (l4.trans' l5))
    have r4 := pm4.mono (x4.trans' l5)
    conv => whnf
    refine .done (.mk _ (same21 _ _ _ _ _ _ _ _ _ r3.one t5 (by omega)) ?_)
    rintro _ h5 ⟨rfl, rfl⟩
    rw [decide_eq_true rfl]
    conv => whnf
    refine .done (.mk _ (same21 _ _ _ _ _ _ _ _ _ r4.one t5 (by omega)) ?_)
    rintro _ h5 ⟨rfl, rfl⟩
    rw [decide_eq_true rfl]
    conv => whnf
    refine .done (.mk _ (awake16 _) ?_)
    rintro _ h6 ⟨rfl, l6⟩
    conv => whnf
    refine .mk fun bo hbo => ?_
    conv => whnf
    have l46 := l4.trans' (l5.trans' l6)
    have dd : ∀ j, X3 j ≠ none → X4 j = none := fun j hj => by
      cases q : X4 j with
      | none => rfl
      | some o => exact absurd (le_none x3 (d4 j (by rw [q]; simp))) hj
    have bo3 : X3 bo = none := le_none (x3.trans' l46) hbo
    have bo4 : X4 bo = none := le_none (x4.trans' (l5.trans' l6)) hbo
    have hc3 : X3.le (h6.put bo (.cells #[.slice (some g3a) arcs.length m3, .slice (some g4a) arcs.length m4] 25 (0, 0))) := (x3.trans' l46).trans' (Hp.le_put hbo)
    have hc4 : X4.le (h6.put bo (.cells #[.slice (some g3a) arcs.length m3, .slice (some g4a) arcs.length m4] 25 (0, 0))) := (x4.trans' (l5.trans' l6)).trans' (Hp.le_put hbo)
    have hB2 := le_minus (le_minus ((l3.trans' l46).trans' (Hp.le_put (o := .cells #[.slice (some g3a) arcs.length m3, .slice (some g4a) arcs.length m4] 25 (0, 0)) hbo)) d3) (Disj.mono l3 d4)
    refine .done (.mk _ (apart15 (B := (Hp.minus (h6.put bo (.cells #[.slice (some g3a) arcs.length m3, .slice (some g4a) arcs.length m4] 25 (0, 0))) X3).minus X4) (m := 2) (c0 := 2) (A0 := some ⟨bo, 0, none⟩) (fun i => if i = 0 then (some g3a, arcs.length, m3) else (some g4a, arcs.length, m4)) (famTwo hc3 hc4 dd) (.lit (by rw [Hp.minus_of bo4, Hp.minus_of bo3]; exact put_at) rfl (fun r hr => by obtain ⟨i, _, rfl⟩ := List.mem_map.1 hr; rfl) rfl) (fun i hi => ?_) (by decide) (fun i hi => ?_)) ?_)
    · by_cases e : i = 0
      · simp only [if_pos e]; exact ⟨maxes (along N arcs zs).2, by have := pm3.1; simpa using this, pm3⟩
      · simp only [if_neg e]; exact ⟨maxes (along N arcs zs).2, by have := pm4.1; simpa using this, pm4⟩
    · by_cases e : i = 0
      · simp only [if_pos e]; omega
      · simp only [if_neg e]; omega
    rintro _ h7 ⟨rfl, l7⟩
    have l27 := hB2.trans' l7
    conv => whnf
    refine .done (.mk _ (keptNet17 N N A1 A arcs.length c1 arcs.length cap arcs arcs h7 (t1.mono l27) (ht.mono (ll2.trans' l27)) (by omega) ⟨rfl, rfl⟩) ?_)
    rintro _ h8 ⟨rfl, rfl⟩
    conv => whnf
    refine .done (.mk _ (kept18 D2 D r cap2 zs h8 (t2.mono l27) (hz.mono (ll2.trans' l27)) hr) ?_)
    rintro _ h9 ⟨rfl, rfl⟩
    conv => whnf
    exact .done ⟨rfl, ll2.trans' l27⟩
  · obtain rfl := b3 he
    conv => whnf
    refine .done (.mk _ (most19 N arcs.length c1 arcs A1 D2 r (r + 4) zs h3 (t1.mono l3).tab (by omega) (t2.mono l3).tab) ?_)
    rintro v4 h4 ⟨l4, b4, g4⟩
    obtain rfl := b4 he
    have ll4 := ll2.trans' (l3.trans' l4)
    conv => whnf
    refine .done (.mk _ (most20 N arcs.length cap arcs A D r cap2 zs h4 (ht.mono ll4) (by omega) (hz.mono ll4)) ?_)
    rintro v5 h5 ⟨l5, b5, _⟩
    obtain rfl := b5 he
    conv => whnf
    refine br_dec (fun q => (q rfl).elim) (fun _ => ?_)
    conv => whnf
    refine br_dec (fun q => (q rfl).elim) (fun _ => ?_)
    conv => whnf
    refine .done (.mk _ (same21 none none 0 0 0 0 [] [] _ (Tab.empty' _ _) (Tab.empty' _ _) (by decide)) ?_)
    rintro _ h5 ⟨rfl, rfl⟩
    rw [decide_eq_true rfl]
    conv => whnf
    refine .done (.mk _ (same21 none none 0 0 0 0 [] [] _ (Tab.empty' _ _) (Tab.empty' _ _) (by decide)) ?_)
    rintro _ h5 ⟨rfl, rfl⟩
    rw [decide_eq_true rfl]
    conv => whnf
    refine .done (.mk _ (awake16 _) ?_)
    rintro _ h6 ⟨rfl, l6⟩
    conv => whnf
    refine .mk fun bo hbo => ?_
    have hB2 := (l3.trans' (l4.trans' (l5.trans' l6))).trans' (Hp.le_put (o := .cells #[.slice none 0 0, .slice none 0 0] 25 (0, 0)) hbo)
    conv => whnf
    refine .done (.mk _ (apart15 (B := Hp.put h6 bo (.cells #[.slice none 0 0, .slice none 0 0] 25 (0, 0))) (m := 2) (c0 := 2) (A0 := some ⟨bo, 0, none⟩) (X := fun _ => Hp.empty) (fun _ => (none, 0, 0)) ⟨Hp.le_refl _, fun _ _ => Hp.le_empty _, fun _ _ j hj => absurd rfl hj, fun _ _ _ _ _ j hj => absurd rfl hj⟩ (.lit put_at rfl (fun r hr => by obtain ⟨i, _, rfl⟩ := List.mem_map.1 hr; rfl) rfl) (fun i hi => ⟨[], rfl, rfl, .inl ⟨rfl, rfl, rfl⟩⟩) (by decide) (fun i hi => Nat.zero_le _)) ?_)
    rintro _ h7 ⟨rfl, l7⟩
    have l27 := hB2.trans' l7
    conv => whnf
    refine .done (.mk _ (keptNet17 N N A1 A arcs.length c1 arcs.length cap arcs arcs h7 (t1.mono l27) (ht.mono (ll2.trans' l27)) (by omega) ⟨rfl, rfl⟩) ?_)
    rintro _ h8 ⟨rfl, rfl⟩
    conv => whnf
    refine .done (.mk _ (kept18 D2 D r cap2 zs h8 (t2.mono l27) (hz.mono (ll2.trans' l27)) hr) ?_)
    rintro _ h9 ⟨rfl, rfl⟩
    conv => whnf
    exact .done ⟨rfl, ll2.trans' l27⟩
end Go.Sx
