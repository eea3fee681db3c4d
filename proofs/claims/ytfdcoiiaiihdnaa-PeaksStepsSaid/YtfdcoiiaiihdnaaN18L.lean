/- Layer 18: the closed examples. Conditions: none. -/
import Derived.Test.YtfdcoiiaiihdnaaC8
import Derived.Test.YtfdcoiiaiihdnaaN18M
namespace Go.Sx
open Go.Proofs
theorem two_along : along 2 twoArcs [0, 0, 1] = (0, [[0, 4], [2, 2], [4, 0], [1, 3]]) := by decide +kernel
theorem two_along2 : along 2 twoArcs [0, 0, 1, 0, 1] = (0, [[0, 4], [2, 2], [4, 0], [1, 3], [3, 1], [0, 4]]) := by decide +kernel
theorem two_along3 : along 2 twoArcs [1] = (180, []) ∨ along 2 twoArcs [1] = (180, [[0, 4]]) := by decide +kernel
theorem litNums {h : Hp} {b : Nat} {l : List Int} {n : Nat} (hb : h b = some (.cells (l.map iv).toArray 3 (0, 0))) (hn : l.length = n) : Tab h 1 (some ⟨b, 0, none⟩) n (l.map fun z => [iv z]) := by
  subst hn; exact tab_nums hb
def twoRows : List (List Int) := [[0, 4], [2, 2], [4, 0], [1, 3]]
theorem two12 (h : Hp) (A : Option Addr) (b : Nat) (ht : Tab h 5 A 2 (twoArcs.map Arc.cells)) (hb : h b = none) :
    Fn Try.prog 12 #[netV 2 A 2 2, .slice (some ⟨b, 0, none⟩) 3 3] (h.put b (.cells #[iv 0, iv 0, iv 1] 3 (0, 0))) fun v h' => (∃ B c J, v = .tuple #[.slice B 4 c, iv 0] ∧ ListsAt h' B twoRows J) ∧ h.le h' := by
  refine (along12 2 2 2 twoArcs A _ 3 3 [0, 0, 1] _ (ht.mono (Hp.le_put hb)) (by decide) (litNums put_at rfl)).mono ?_
  rintro v h' ⟨l, _, g⟩
  rw [two_along] at g
  obtain ⟨v, X, rfl, ⟨B, c, J, rfl, q1⟩, q2, _⟩ := g rfl
  exact ⟨⟨B, c, _, rfl, q1.lists.mono q2⟩, (Hp.le_put hb).trans' l⟩
theorem two12e (h : Hp) (A : Option Addr) (b : Nat) (ht : Tab h 5 A 2 (twoArcs.map Arc.cells)) (hb : h b = none) :
    Fn Try.prog 12 #[netV 2 A 2 2, .slice (some ⟨b, 0, none⟩) 1 1] (h.put b (.cells #[iv 1] 3 (0, 0))) fun v h' => v = .tuple #[.slice none 0 0, iv 180] ∧ h.le h' := by
  refine (along12 2 2 2 twoArcs A _ 1 1 [1] _ (ht.mono (Hp.le_put hb)) (by decide) (litNums put_at rfl)).mono ?_
  rintro v h' ⟨l, g, _⟩
  have e10 : (along 2 twoArcs [1]).1 = 180 := by rcases two_along3 with q | q <;> rw [q]
  obtain rfl := g (by rw [e10]; decide)
  rw [e10]
  exact ⟨rfl, (Hp.le_put hb).trans' l⟩
theorem two19 (h : Hp) (A : Option Addr) (b : Nat) (ht : Tab h 5 A 2 (twoArcs.map Arc.cells)) (hb : h b = none) :
    Fn Try.prog 19 #[netV 2 A 2 2, .slice (some ⟨b, 0, none⟩) 3 3] (h.put b (.cells #[iv 0, iv 0, iv 1] 3 (0, 0))) fun v h' => (∃ B c, v = .tuple #[.slice B 2 c, iv 0] ∧ Tab h' 1 B 2 ([4, 4].map fun z => [iv z])) ∧ h.le h' := by
  refine (most19 2 2 2 twoArcs A _ 3 3 [0, 0, 1] _ (ht.mono (Hp.le_put hb)) (by decide) (litNums put_at rfl)).mono ?_
  rintro v h' ⟨l, _, g⟩
  rw [two_along] at g
  obtain ⟨v, X, rfl, p1, q2, _⟩ := g rfl
  obtain ⟨gm, cm, rfl, p3⟩ := p1.2 (by simp)
  exact ⟨⟨_, cm, rfl, (p3.mono q2).one⟩, (Hp.le_put hb).trans' l⟩
theorem two22 (h : Hp) (A : Option Addr) (b n : Nat) (zs : List Int) (hz : zs.length = n) (r : Bool) (he : (along 2 twoArcs zs).1 = 0 ∧ homeOf 2 twoArcs zs = r) (ht : Tab h 5 A 2 (twoArcs.map Arc.cells)) (hb : h b = none) :
    Fn Try.prog 22 #[netV 2 A 2 2, .slice (some ⟨b, 0, none⟩) n n] (h.put b (.cells (zs.map iv).toArray 3 (0, 0))) fun v h' => v = .tuple #[.bool r, iv 0] ∧ h.le h' := by
  refine (home22 2 2 2 twoArcs A _ n n zs _ (ht.mono (Hp.le_put hb)) (by decide) (litNums put_at hz)).mono ?_
  rintro v h' ⟨rfl, l⟩
  rw [he.1, he.2]
  exact ⟨rfl, (Hp.le_put hb).trans' l⟩
theorem awake16 (h : Hp) : Fn Try.prog 16 #[] h fun r h' => r = .bool true ∧ h.le h' := by
  refine Fn.intro (args := []) mix14 Try.func16 rfl (by decide) Try.ntmps16 rfl (low16 rfl) rfl ?_
  conv => whnf
  refine .done (.mk _ (two28 h) ?_)
  rintro _ h1 ⟨A1, rfl, l1, t1⟩
  conv => whnf
  refine .mk fun b1 hb1 => ?_
  conv => whnf
  refine .done (.mk _ (two12 h1 A1 b1 t1 hb1) ?_)
  rintro _ h2 ⟨⟨B2, c2, J2, rfl, row1⟩, l2⟩
  conv => whnf
  refine .done (.mk _ (two28 h2) ?_)
  rintro _ h3 ⟨A3, rfl, l3, t3⟩
  conv => whnf
  refine .mk fun b3 hb3 => ?_
  conv => whnf
  refine .done (.mk _ (two19 h3 A3 b3 t3 hb3) ?_)
  rintro _ h4 ⟨⟨B4, c4, rfl, row4⟩, l4⟩
  conv => whnf
  refine .done (.mk _ (two28 h4) ?_)
  rintro _ h5 ⟨A5, rfl, l5, t5⟩
  conv => whnf
  refine .mk fun b5 hb5 => ?_
  conv => whnf
  refine .done (.mk _ (two22 h5 A5 b5 3 [0, 0, 1] rfl false (by decide +kernel) t5 hb5) ?_)
  rintro _ h6 ⟨rfl, l6⟩
  conv => whnf
  refine .done (.mk _ (two28 h6) ?_)
  rintro _ h7 ⟨A7, rfl, l7, t7⟩
  conv => whnf
  refine .mk fun b7 hb7 => ?_
  conv => whnf
  refine .done (.mk _ (two22 h7 A7 b7 5 [0, 0, 1, 0, 1] rfl true (by decide +kernel) t7 hb7) ?_)
  rintro _ h8 ⟨rfl, l8⟩
  conv => whnf
  refine .done (.mk _ (two28 h8) ?_)
  rintro _ h9 ⟨A9, rfl, l9, t9⟩
  conv => whnf
  refine .mk fun b9 hb9 => ?_
  conv => whnf
  refine .done (.mk _ (two12e h9 A9 b9 t9 hb9) ?_)
  rintro _ h10 ⟨rfl, l10⟩
  have ll : h.le h10 := l1.trans' (l2.trans' (l3.trans' (l4.trans' (l5.trans' (l6.trans' (l7.trans' (l8.trans' (l9.trans' l10))))))))
  have row1 := row1.mono (l3.trans' (l4.trans' (l5.trans' (l6.trans' (l7.trans' (l8.trans' (l9.trans' l10)))))))
  have row4 := row4.mono (l5.trans' (l6.trans' (l7.trans' (l8.trans' (l9.trans' l10)))))
  conv => whnf
  refine .mk fun p1 hp1 => ?_
  conv => whnf
  refine .mk fun p2 hp2 => ?_
  conv => whnf
  refine .mk fun p3 hp3 => ?_
  conv => whnf
  refine .mk fun p4 hp4 => ?_
  conv => whnf
  refine .mk fun p5 hp5 => ?_
  conv => whnf
  have g1 := fun o => ((((litNums (l := [0, 4]) put_at rfl).mono (Hp.le_put hp2)).mono (Hp.le_put hp3)).mono (Hp.le_put hp4)).mono (Hp.le_put (o := o) hp5)
  have g2 := fun o => (((litNums (l := [2, 2]) put_at rfl).mono (Hp.le_put hp3)).mono (Hp.le_put hp4)).mono (Hp.le_put (o := o) hp5)
  have g3 := fun o => ((litNums (l := [4, 0]) put_at rfl).mono (Hp.le_put hp4)).mono (Hp.le_put (o := o) hp5)
  have g4 := fun o => (litNums (l := [1, 3]) put_at rfl).mono (Hp.le_put (o := o) hp5)
  have lp := fun o => (Hp.le_put hp1).trans' ((Hp.le_put hp2).trans' ((Hp.le_put hp3).trans' ((Hp.le_put hp4).trans' (Hp.le_put (o := o) hp5))))
  refine .done (.mk _ (sameLists14 B2 (some ⟨p5, 0, none⟩) c2 4 twoRows twoRows J2 (fun i => (some ⟨[p1, p2, p3, p4].getD i 0, 0, none⟩, 2)) _ (row1.mono (lp _)) ⟨.lit put_at rfl (fun r hr => by obtain ⟨i, _, rfl⟩ := List.mem_map.1 hr; rfl) rfl, fun i hi => ?_⟩ (by decide) (by decide)) ?_)
  · match i, hi with
    | 0, _ => exact g1 _
    | 1, _ => exact g2 _
    | 2, _ => exact g3 _
    | 3, _ => exact g4 _
    | i + 4, hi => exact absurd hi (by show ¬ i + 4 < 4; omega)
  rintro _ h11 ⟨rfl, rfl⟩
  rw [decide_eq_true rfl]
  conv => whnf
  refine .mk fun p6 hp6 => ?_
  conv => whnf
  refine .done (.mk _ (same21 B4 _ 2 2 c4 2 [4, 4] [4, 4] _ ((row4.mono (lp _)).mono (Hp.le_put hp6)) (litNums put_at rfl) (by decide)) ?_)
  rintro _ h12 ⟨rfl, rfl⟩
  rw [decide_eq_true rfl]
  conv => whnf
  exact .done ⟨rfl, ll.trans' ((lp _).trans' (Hp.le_put hp6))⟩
end Go.Sx
