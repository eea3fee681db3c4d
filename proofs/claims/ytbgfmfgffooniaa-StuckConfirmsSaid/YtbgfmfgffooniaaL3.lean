/- StuckConfirms: the law's own function answers true. Conditions: none. -/
import Derived.Test.YtbgfmfgffooniaaS6
namespace Go.Sx
open Go.Proofs
theorem law3 (N : Int) (A B : Option Addr) (n m cap cap' : Nat) (arcs : List Arc) (l : List Blk) (h : Hp) (ht : Tab h 5 A n (arcs.map Arc.cells)) (hu : Tab h 3 B m (l.map Blk.cells)) (hn : n * 40 ≤ 140737488355328) (hm : m * 24 ≤ 140737488355328) :
    Fn Try.prog 3 #[netV N A n cap, .slice B m cap'] h fun r h' => r = .bool true ∧ h.le h' := by
  refine Fn.intro (args := [netV N A n cap, .slice B m cap']) mix14 Try.func3 rfl (by decide) Try.ntmps3 rfl (low3 rfl) rfl ?_
  conv => whnf
  refine .done (.mk _ (blocked9 B m cap' l h hu hm) ?_)
  rintro _ h1 ⟨hle1, B', cb', rfl, hu1⟩
  conv => whnf
  refine .done (.mk _ (net10 N A n cap arcs h1 (ht.mono hle1) hn) ?_)
  rintro _ h2 ⟨hle2, A', ca', rfl, ht2⟩
  have hu2 := hu1.mono hle2
  conv => whnf
  refine .done (.mk _ (confirm11 N A' B' n m ca' cb' arcs l h2 ht2 hu2 (by omega) (by omega)) ?_)
  rintro _ h3 ⟨rfl, hle3⟩
  have hle := (hle1.trans' hle2).trans' hle3
  conv => whnf
  refine .done (.mk _ (confirm12 N A B n m cap cap' arcs l h3 (ht.mono hle) (hu.mono hle) (by omega) (by omega)) ?_)
  rintro _ _ ⟨rfl, rfl⟩
  conv => whnf
  refine br_dec (fun _ => ?_) (fun q => (q rfl).elim)
  conv => whnf
  refine .done (.mk _ (same13 B' B m m cb' cap' l l _ (hu2.mono hle3) (hu.mono hle) (by omega)) ?_)
  rintro _ _ ⟨rfl, rfl⟩
  rw [decide_eq_true rfl]
  conv => whnf
  refine .done (.mk _ (sameNet14 N N A' A n n ca' cap arcs arcs _ (ht2.mono hle3) (ht.mono hle) (by omega)) ?_)
  rintro _ _ ⟨rfl, rfl⟩
  rw [decide_eq_true ⟨rfl, rfl⟩]
  conv => whnf
  refine .done (.mk _ (awake15 _) ?_)
  rintro _ h4 ⟨rfl, hle4⟩
  conv => whnf
  exact .done ⟨rfl, hle.trans' hle4⟩
end Go.Sx
