/- Layer 18: a net lent. Conditions: none. -/
import Derived.Test.YtfdcoiiaiihdnaaN18J
namespace Go.Sx
open Go.Proofs
def markArc : Arc := ⟨-7770777, 0, 0, 0, 0⟩
/-- a net lent: its arcs, and a mark behind them -/
structure LentAt (h : Hp) (A : Option Addr) (n c : Nat) (arcs : List Arc) : Prop where
  len : arcs.length = n
  cap : n + 1 ≤ c
  row : Tab h 5 A (n + 1) ((arcs ++ [markArc]).map Arc.cells)
theorem LentAt.tab {h : Hp} {A : Option Addr} {n c : Nat} {arcs : List Arc} (x : LentAt h A n c arcs) : Tab h 5 A n (arcs.map Arc.cells) := by
  have := x.row.take (k := n) (by omega)
  rwa [List.map_append, List.take_left' (by simpa using x.len)] at this
theorem LentAt.mono {h h' : Hp} {A : Option Addr} {n c : Nat} {arcs : List Arc} (x : LentAt h A n c arcs) (l : h.le h') : LentAt h' A n c arcs := ⟨x.len, x.cap, x.row.mono l⟩
theorem lentNet10 (N : Int) (A : Option Addr) (n cap : Nat) (arcs : List Arc) (h : Hp) (ht : Tab h 5 A n (arcs.map Arc.cells)) (hn : n * 40 ≤ 140737488355328) :
    Fn Try.prog 10 #[netV N A n cap] h fun r h' => h.le h' ∧ ∃ A' c', r = netV N A' n c' ∧ LentAt h' A' n c' arcs := by
  have hlen : arcs.length = n := by simpa using ht.len
  refine Fn.intro (args := [netV N A n cap]) mix14 Try.func10 rfl (by decide) Try.ntmps10 rfl (low10 rfl) rfl ?_
  conv => whnf
  refine .done (.fresh _ rfl rfl rfl (ht.src _) (arcs_one arcs) (by simp [maxLen]; omega) (by omega) fun A1 c1 hA1 => ?_)
  conv => whnf
  refine .done (.push 2 _ markArc.cells rfl rfl (fun u hu => arcs_one [markArc] u (by simpa using hu)) rfl (by simp [maxLen]; omega) hn (by decide) fun A2 c2 hA2 => ?_)
  conv => whnf
  refine .mk 0 n rfl rfl (Nat.zero_le _) (by omega) fun B hB1 hB2 => ?_
  conv => whnf
  refine .pub 2 50 5 A2 (n + 1) c2 _ rfl fun h' hle hr _ => .done ⟨hle, A2, c2, ?_, hlen, hA2.2, ?_⟩
  · have hB : B = A2 := by
      by_cases q : 0 < c2
      · rw [hB1 q]; cases A2 with
        | none => rfl
        | some a => simp [add_zero]
      · exact hB2 (by omega)
    subst hB
    simp only [oneVal, Nat.sub_zero]; rfl
  · have hr : RowAt h' 50 5 A2 (n + 1) c2 ((arcs.map Arc.cells).flatten ++ markArc.cells) := hr
    rw [show (arcs.map Arc.cells).flatten ++ markArc.cells = ((arcs ++ [markArc]).map Arc.cells).flatten by simp] at hr
    exact hr.tab (arcs_wid _) (by decide)
theorem keptNet17 (N M : Int) (A B : Option Addr) (n c m c2 : Nat) (arcs arcs2 : List Arc) (h : Hp) (ht : LentAt h A n c arcs) (hu : Tab h 5 B m (arcs2.map Arc.cells)) (hn : n ≤ 9223372036854775805) (hs : N = M ∧ arcs = arcs2) :
    Fn Try.prog 17 #[netV N A n c, netV M B m c2] h fun r h' => r = .bool true ∧ h' = h := by
  obtain ⟨rfl, rfl⟩ := hs
  have hm : arcs.length = m := by simpa using hu.len
  have hnm : n = m := by rw [← ht.len, hm]
  subst hnm
  have hc := ht.cap
  obtain ⟨g, rfl⟩ := ht.row.ad (by omega)
  refine Fn.intro (args := [netV N (some g) n c, netV N B n c2]) mix14 Try.func17 rfl (by decide) Try.ntmps17 rfl (low17 rfl) rfl ?_
  conv => whnf
  refine .ok (by omega) (by omega) ?_
  conv => whnf
  refine .mk 0 (n + 1) rfl rfl (Nat.zero_le _) hc fun G hG1 _ => ?_
  obtain rfl : G = some g := by rw [hG1 (by omega)]; simp [add_zero]
  conv => whnf
  refine .done (.mk _ (sameNet14 N N _ _ n n c c2 arcs arcs h ht.tab hu (by omega)) ?_)
  rintro _ h' ⟨rfl, rfl⟩
  rw [decide_eq_true ⟨rfl, rfl⟩]
  conv => whnf
  refine .mk g rfl (by omega) (by omega) ?_
  conv => whnf
  refine .hp (iv (-7770777)) (by rw [Int.toNat_natCast, add_add]; exact ht.row.cell g rfl n markArc.cells (by rw [List.getElem?_map, List.getElem?_append_right (by omega), hm, Nat.sub_self]; rfl) 0 _ rfl) ?_
  conv => whnf
  exact .done ⟨rfl, rfl⟩
end Go.Sx
