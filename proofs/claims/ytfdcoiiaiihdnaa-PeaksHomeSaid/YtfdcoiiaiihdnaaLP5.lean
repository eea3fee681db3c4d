/- PeaksHome: the law's own function answers true. Conditions: none. -/
import Derived.Test.YtfdcoiiaiihdnaaN18S
import Derived.Test.YtfdcoiiaiihdnaaN18L
namespace Go.Sx
open Go.Proofs
theorem lawP5 (N : Int) (A D : Option Addr) (n r cap cap2 : Nat) (arcs : List Arc) (zs : List Int) (h : Hp) (ht : Tab h 5 A n (arcs.map Arc.cells)) (hz : Tab h 1 D r (zs.map fun z => [iv z]))
    (hn : n * 40 ≤ 140737488355328) (hr : r * 8 ≤ 140737488355328) :
    Fn Try.prog 5 #[netV N A n cap, .slice D r cap2] h fun v h' => v = .bool true ∧ h.le h' := by
  refine Fn.intro (args := [netV N A n cap, .slice D r cap2]) mix14 Try.func5 rfl (by decide) Try.ntmps5 rfl (low5 rfl) rfl ?_
  conv => whnf
  refine .done (.mk _ (lentNet10 N A n cap arcs h ht hn) ?_)
  rintro _ h1 ⟨l1, A1, c1, rfl, t1⟩
  conv => whnf
  refine .done (.mk _ (lent11 D r cap2 zs h1 (hz.mono l1) hr) ?_)
  rintro _ h2 ⟨l2, D2, rfl, t2⟩
  conv => whnf
  refine .done (.mk _ (home22 N n c1 arcs A1 D2 r (r + 4) zs h2 (t1.mono l2).tab (by omega) t2.tab) ?_)
  rintro _ h3 ⟨rfl, l3⟩
  have ll3 := l1.trans' (l2.trans' l3)
  conv => whnf
  refine .done (.mk _ (home23 N n cap arcs A D r cap2 zs h3 (ht.mono ll3) (by omega) (hz.mono ll3)) ?_)
  rintro _ h4 ⟨rfl, l4⟩
  have ll4 := ll3.trans' l4
  conv => whnf
  refine .done (.mk _ (awake16 _) ?_)
  rintro _ h5 ⟨rfl, l5⟩
  have ll5 := ll4.trans' l5
  cases homeOf N arcs zs <;>
  · conv => whnf
    refine br_dec (fun _ => ?_) (fun q => (q rfl).elim)
    conv => whnf
    refine .done (.mk _ (keptNet17 N N A1 A n c1 n cap arcs arcs h5 (t1.mono (l2.trans' (l3.trans' (l4.trans' l5)))) (ht.mono ll5) (by omega) ⟨rfl, rfl⟩) ?_)
    rintro _ h6 ⟨rfl, rfl⟩
    conv => whnf
    refine .done (.mk _ (kept18 D2 D r cap2 zs h6 (t2.mono (l3.trans' (l4.trans' l5))) (hz.mono ll5) hr) ?_)
    rintro _ h7 ⟨rfl, rfl⟩
    conv => whnf
    exact .done ⟨rfl, ll5⟩
end Go.Sx
