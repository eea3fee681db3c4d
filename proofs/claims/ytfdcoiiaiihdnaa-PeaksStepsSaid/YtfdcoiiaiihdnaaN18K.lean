/- Layer 18: what arcs have along a list; the most; whether it comes home; the examples. Conditions: none. -/
import Derived.Test.YtfdcoiiaiihdnaaN18J
namespace Go.Sx
open Go.Proofs
theorem along12 (N : Int) (n cap : Nat) (arcs : List Arc) (A D : Option Addr) (r cap2 : Nat) (zs : List Int) (h : Hp) (ht : Tab h 5 A n (arcs.map Arc.cells)) (hn : n * 40 ≤ 140737488355328) (hz : Tab h 1 D r (zs.map fun z => [iv z])) :
    Fn Try.prog 12 #[netV N A n cap, .slice D r cap2] h fun v h' => OverOk h N arcs zs (.slice none 0 0) (RAlong arcs.length) v h' := by
  refine Fn.intro (args := [netV N A n cap, .slice D r cap2]) mix14 Try.func12 rfl (by decide) Try.ntmps12 rfl (low12 rfl) rfl ?_
  conv => whnf
  refine .done (.mk _ (over29 30 (RAlong arcs.length) N n cap arcs A D r cap2 zs h ht hn hz (rAlong_nil _) (next30 (by decide))) ?_)
  rintro v h' ⟨hle, hb, hg⟩
  by_cases he : (along N arcs zs).1 = 0
  · obtain ⟨v, X, rfl, h1, h2, h3⟩ := hg he
    conv => whnf
    exact .done ⟨hle, fun q => absurd he q, fun _ => ⟨v, X, rfl, h1, h2, h3⟩⟩
  · obtain rfl := hb he
    conv => whnf
    exact .done ⟨hle, fun _ => rfl, fun q => absurd q he⟩
theorem over37_38 (N : Int) (n cap : Nat) (arcs : List Arc) (A D : Option Addr) (r cap2 : Nat) (zs : List Int) (h : Hp) (ht : Tab h 5 A n (arcs.map Arc.cells)) (hn : n * 40 ≤ 140737488355328) (hz : Tab h 1 D r (zs.map fun z => [iv z])) :
    Fn Try.prog 37 #[netV N A n cap, .slice D r cap2, .slice none 0 0, .func (.func 38) #[] #[]] h fun v h' => OverOk h N arcs zs (.slice none 0 0) (RMost arcs.length) v h' := by
  by_cases hs : chk N arcs = 0
  · exact over37 38 (RMost arcs.length) N n cap arcs A D r cap2 zs h ht hn hz (rMost_nil _) (next38 (by have := (chk_zero hs).2.2.1; omega))
  · exact over37_bad 38 (RMost arcs.length) N n cap arcs A D r cap2 zs h ht hn hs
theorem most19 (N : Int) (n cap : Nat) (arcs : List Arc) (A D : Option Addr) (r cap2 : Nat) (zs : List Int) (h : Hp) (ht : Tab h 5 A n (arcs.map Arc.cells)) (hn : n * 40 ≤ 140737488355328) (hz : Tab h 1 D r (zs.map fun z => [iv z])) :
    Fn Try.prog 19 #[netV N A n cap, .slice D r cap2] h fun v h' => OverOk h N arcs zs (.slice none 0 0) (RMost arcs.length) v h' := by
  refine Fn.intro (args := [netV N A n cap, .slice D r cap2]) mix14 Try.func19 rfl (by decide) Try.ntmps19 rfl (low19 rfl) rfl ?_
  conv => whnf
  refine .done (.mk _ (over37_38 N n cap arcs A D r cap2 zs h ht hn hz) ?_)
  rintro v h' ⟨hle, hb, hg⟩
  by_cases he : (along N arcs zs).1 = 0
  · obtain ⟨v, X, rfl, h1, h2, h3⟩ := hg he
    conv => whnf
    exact .done ⟨hle, fun q => absurd he q, fun _ => ⟨v, X, rfl, h1, h2, h3⟩⟩
  · obtain rfl := hb he
    conv => whnf
    exact .done ⟨hle, fun _ => rfl, fun q => absurd q he⟩
def homeOf (N : Int) (arcs : List Arc) (zs : List Int) : Bool := decide ((along N arcs zs).1 = 0) && decide ((along N arcs zs).2.headD [] = (along N arcs zs).2.getLastD [])
theorem along_ne {N : Int} {arcs : List Arc} {zs : List Int} (h : (along N arcs zs).1 = 0) : (along N arcs zs).2 ≠ [] := by
  by_cases hs : chk N arcs = 0
  · by_cases hl : 2048 < zs.length
    · rw [along_long hs hl] at h; cases h
    · rw [along, if_pos hs, if_neg hl]; simp
  · rw [along_bad hs] at h; exact absurd h hs
theorem alongR_len {N : Nat} {arcs : List Arc} : ∀ (zs f : List Int), (alongR N arcs zs f).2.length ≤ zs.length
  | [], f => Nat.le_refl _
  | v :: zs, f => by
    unfold alongR
    split
    · simp
    · split
      · have := alongR_len (N := N) (arcs := arcs) zs (bump f v.toNat)
        simp; omega
      · simp
theorem along_size (N : Int) (arcs : List Arc) (zs : List Int) : (along N arcs zs).2.length ≤ 2049 := by
  unfold along
  split
  · split
    · simp
    · have := alongR_len (N := N.toNat) (arcs := arcs) zs (List.replicate N.toNat 0)
      simp; omega
  · simp
theorem home22 (N : Int) (n cap : Nat) (arcs : List Arc) (A D : Option Addr) (r cap2 : Nat) (zs : List Int) (h : Hp) (ht : Tab h 5 A n (arcs.map Arc.cells)) (hn : n * 40 ≤ 140737488355328) (hz : Tab h 1 D r (zs.map fun z => [iv z])) :
    Fn Try.prog 22 #[netV N A n cap, .slice D r cap2] h fun v h' => v = .tuple #[.bool (homeOf N arcs zs), iv (along N arcs zs).1] ∧ h.le h' := by
  have hlen : arcs.length = n := by simpa using ht.len
  refine Fn.intro (args := [netV N A n cap, .slice D r cap2]) mix14 Try.func22 rfl (by decide) Try.ntmps22 rfl (low22 rfl) rfl ?_
  conv => whnf
  refine .done (.mk _ (over39 40 (RHome arcs.length) N n cap arcs A D r cap2 zs h ht hn hz (rHome_nil _) (rHome_shape _) next40) ?_)
  rintro v h' ⟨hle, hb, hg⟩
  by_cases he : (along N arcs zs).1 = 0
  · obtain ⟨v, X, rfl, h1, h2, h3⟩ := hg he
    obtain ⟨ga, ca, gb, cb, rfl, q1, q2⟩ := h1.2 (along_ne he)
    conv => whnf
    refine .done (.mk _ (equal41 _ _ _ _ _ _ _ _ _ (q1.mono h2).one (q2.mono h2).one (by omega)) ?_)
    rintro _ h3 ⟨rfl, rfl⟩
    have hh : homeOf N arcs zs = decide ((along N arcs zs).2.headD [] = (along N arcs zs).2.getLastD []) := by rw [homeOf, decide_eq_true he, Bool.true_and]
    conv => whnf
    refine .done ⟨?_, hle⟩
    rw [hh, he]; rfl
  · obtain rfl := hb he
    conv => whnf
    refine br_dec (fun q => absurd q he) (fun _ => ?_)
    conv => whnf
    refine .done ⟨?_, hle⟩
    rw [homeOf, decide_eq_false he]; rfl
def twoArcs : List Arc := [⟨0, 1, 2, 3, 0⟩, ⟨1, 0, 3, 2, 4⟩]
theorem two28 (h : Hp) : Fn Try.prog 28 #[] h fun r h' => ∃ A, r = netV 2 A 2 2 ∧ h.le h' ∧ Tab h' 5 A 2 (twoArcs.map Arc.cells) := by
  refine Fn.intro (args := []) mix14 Try.func28 rfl (by decide) Try.ntmps28 rfl (low28 rfl) rfl ?_
  conv => whnf
  refine .mk fun b hb => ?_
  conv => whnf
  exact .done ⟨_, rfl, Hp.le_put hb, .lit put_at rfl (arcs_wid _) rfl⟩
end Go.Sx
