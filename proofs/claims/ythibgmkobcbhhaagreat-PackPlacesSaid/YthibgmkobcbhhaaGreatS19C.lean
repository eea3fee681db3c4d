/- What the closures compare. Conditions: none. -/
import Derived.Test.YthibgmkobcbhhaaGreatS19L
import Derived.Shelf.SlSortCmp.WholeK
import Derived.Shelf.SlicesG.Cmp
import Derived.Shelf.Lay
import Derived.Shelf.SlGeneric
import Derived.Ground.SlsfProg
import Derived.Ground.SlgcProg
import Derived.LoopN
import Derived.StillTailTactics
import Derived.Test.YthibgmkobcbhhaaGreatProg
namespace Go.Proofs
open Go.Shelf Go.RowKit Go.Lib Go.Sort
def encP (x : Int × Int) : List Value := [.int .i64 x.1, .int .i64 x.2]
set_option maxHeartbeats 1000000 in
theorem closure40 (x y : Int × Int) (W : World) : Calls Tryz.prog 22 #[.agg #[.int .i64 x.1, .int .i64 x.2], .agg #[.int .i64 y.1, .int .i64 y.2]] W fun e w' => e = .returned (.int .i64 (Lib.compareInt x.1 y.1)) ∧ ∃ q os', w' = grow (W.drewN q) os' := by
  have hcon := fun W' => AnyG.cmp_Compare_int Tryz.cmpInt x.1 y.1 W'
  change ∀ W', Calls Tryz.prog 19 _ _ _ at hcon
  generalize Lib.compareInt x.1 y.1 = r at hcon ⊢
  go_enter Tryz.func22, Tryz.ntmps22
  go_wp2_with (go_at_call 19; refine (hcon _).mono ?_; rintro e w' ⟨rfl, rfl⟩)
  go_ret
  exact ⟨rfl, 0, _, by rw [alloc_eq_grow, alloc_eq_grow, grow_grow]; rfl⟩
set_option maxHeartbeats 1000000 in
theorem or28 (x y : Int) (b : Nat) (W : World) (h0 : W.cell? ⟨b, 0, none⟩ = some (.int .i64 x)) (h1 : W.cell? ⟨b, 1, none⟩ = some (.int .i64 y)) :
    Calls Tryz.prog 48 #[.slice (some ⟨b, 0, none⟩) 2 2] W fun e w' => e = .returned (.int .i64 (if x = 0 then y else x)) ∧ ∃ q, w' = W.drewN q := by
  go_enter Tryz.func48, Tryz.ntmps48
  go_wp2
  refine wp_loop_rounds 3 ?_
  unfold Code.rounds
  go_wp2
  · exfalso; simp_all
  · go_ret
    exact ⟨rfl, 0, rfl⟩
  · rename_i hx
    have hx0 : x = 0 := by simpa using hx
    subst hx0
    unfold Code.rounds
    go_wp2
    · go_ret
      exact ⟨rfl, 0, rfl⟩
    · rename_i hy
      have hy0 : y = 0 := by simpa using hy
      subst hy0
      unfold Code.rounds
      go_wp2
      go_ret
      exact ⟨rfl, 0, rfl⟩
set_option maxHeartbeats 1000000 in
set_option maxRecDepth 100000 in
theorem closure27 (x y : Int × Int) (W : World) : Calls Tryz.prog 47 #[.agg #[.int .i64 x.1, .int .i64 x.2], .agg #[.int .i64 y.1, .int .i64 y.2]] W fun e w' => e = .returned (.int .i64 (if Lib.compareInt x.1 y.1 = 0 then Lib.compareInt x.2 y.2 else Lib.compareInt x.1 y.1)) ∧ ∃ q os', w' = grow (W.drewN q) os' := by
  have hcon1 := fun W' => AnyG.cmp_Compare_int Tryz.cmpInt x.1 y.1 W'
  have hcon2 := fun W' => AnyG.cmp_Compare_int Tryz.cmpInt x.2 y.2 W'
  change ∀ W', Calls Tryz.prog 19 _ _ _ at hcon1
  change ∀ W', Calls Tryz.prog 19 _ _ _ at hcon2
  generalize Lib.compareInt x.1 y.1 = r at hcon1 ⊢
  generalize Lib.compareInt x.2 y.2 = s at hcon2 ⊢
  go_enter Tryz.func47, Tryz.ntmps47
  go_wp2
  have c0 : ((W.alloc (Obj.cells #[Value.int IntKind.i64 x.fst, Value.int IntKind.i64 x.snd] 73)).alloc (Obj.cells #[Value.int IntKind.i64 y.fst, Value.int IntKind.i64 y.snd] 73)).cell? ⟨W.heap.size, 0, none⟩ = some (.int .i64 x.1) := by simp
  have c1 : ((W.alloc (Obj.cells #[Value.int IntKind.i64 x.fst, Value.int IntKind.i64 x.snd] 73)).alloc (Obj.cells #[Value.int IntKind.i64 y.fst, Value.int IntKind.i64 y.snd] 73)).cell? ⟨W.heap.size, 1, none⟩ = some (.int .i64 x.2) := by simp
  have c2 : ((W.alloc (Obj.cells #[Value.int IntKind.i64 x.fst, Value.int IntKind.i64 x.snd] 73)).alloc (Obj.cells #[Value.int IntKind.i64 y.fst, Value.int IntKind.i64 y.snd] 73)).cell? ⟨W.heap.size + 1, 0, none⟩ = some (.int .i64 y.1) := by simp
  have c3 : ((W.alloc (Obj.cells #[Value.int IntKind.i64 x.fst, Value.int IntKind.i64 x.snd] 73)).alloc (Obj.cells #[Value.int IntKind.i64 y.fst, Value.int IntKind.i64 y.snd] 73)).cell? ⟨W.heap.size + 1, 1, none⟩ = some (.int .i64 y.2) := by simp
  have g0 : ∃ os', ((W.alloc (Obj.cells #[Value.int IntKind.i64 x.fst, Value.int IntKind.i64 x.snd] 73)).alloc (Obj.cells #[Value.int IntKind.i64 y.fst, Value.int IntKind.i64 y.snd] 73)) = grow W os' := ⟨_, by rw [alloc_eq_grow, alloc_eq_grow, grow_grow]⟩
  generalize ((W.alloc (Obj.cells #[Value.int IntKind.i64 x.fst, Value.int IntKind.i64 x.snd] 73)).alloc (Obj.cells #[Value.int IntKind.i64 y.fst, Value.int IntKind.i64 y.snd] 73)) = W1 at c0 c1 c2 c3 g0 ⊢
  refine wp_region_still_tail 10 (by kernel_rfl) (by kernel_rfl) ?_
  change wpStill _ _ W1.drew _ _ _
  have d0 : W1.drew.cell? ⟨W.heap.size, 0, none⟩ = some (.int .i64 x.1) := c0
  have d1 : W1.drew.cell? ⟨W.heap.size, 1, none⟩ = some (.int .i64 x.2) := c1
  have d2 : W1.drew.cell? ⟨W.heap.size + 1, 0, none⟩ = some (.int .i64 y.1) := c2
  have d3 : W1.drew.cell? ⟨W.heap.size + 1, 1, none⟩ = some (.int .i64 y.2) := c3
  generalize W1.drew = W2 at d0 d1 d2 d3 ⊢
  clear c0 c1 c2 c3
  simp only [List.take_succ_cons, List.take_zero, List.drop_succ_cons, List.drop_zero]
  iterate 4 still_step
  still_call (hcon1 _)
  iterate 4 still_step
  still_call (hcon2 _)
  refine wpStill_nil ?_
  change wpList _ _ _ _ _ W1.drew
  have g1 : ∃ os', W1.drew = grow (W.drewN 1) os' := by
    obtain ⟨os', g0⟩ := g0
    exact ⟨os', by rw [g0]; rfl⟩
  generalize W1.drew = W3 at g1 ⊢
  have hor := or28 r s W3.heap.size
  go_wp2_with (go_at_call 48; refine (hor _ (by simp) (by simp)).mono ?_; rintro e w' ⟨rfl, q, rfl⟩)
  all_goals
    go_ret
    obtain ⟨os', rfl⟩ := g1
    have e : ∀ o, ((grow (W.drewN 1) os').alloc o).drewN q = grow (W.drewN (1 + q)) (os' ++ #[o]) := fun o => by rw [alloc_eq_grow, grow_grow, ← World.drewN_drewN]; rfl
    exact ⟨rfl, 1 + q, _, e _⟩
def cfP (x y : Int × Int) : Int := if Lib.compareInt x.1 y.1 = 0 then Lib.compareInt x.2 y.2 else Lib.compareInt x.1 y.1
def cfB (x y : Int × Int) : Int := Lib.compareInt x.1 y.1
theorem ltB (x y : Int × Int) : ltOf cfB x y = decide (x.1 < y.1) := by
  unfold ltOf cfB Lib.compareInt
  by_cases h1 : x.1 < y.1
  · simp [h1]
  · by_cases h2 : y.1 < x.1 <;> simp [h1, h2]
theorem ltP (x y : Int × Int) : ltOf cfP x y = decide (x.1 < y.1 ∨ x.1 = y.1 ∧ x.2 < y.2) := by
  unfold ltOf cfP Lib.compareInt
  by_cases h1 : x.1 < y.1
  · simp [h1]
  · by_cases h2 : y.1 < x.1
    · have : ¬ x.1 = y.1 := by omega
      simp [h1, h2, this]
    · have : x.1 = y.1 := by omega
      by_cases h3 : x.2 < y.2
      · simp [h3, this]
      · by_cases h4 : y.2 < x.2 <;> simp [h3, h4, this]
theorem swoB : SWO (ltOf cfB) where
  irrefl x := by rw [ltB]; simp
  trans x y z h1 h2 := by rw [ltB] at *; simp at *; omega
  ntrans x y z h1 h2 := by rw [ltB] at *; simp at *; omega
theorem swoP : SWO (ltOf cfP) where
  irrefl x := by rw [ltP]; simp
  trans x y z h1 h2 := by rw [ltP] at *; simp only [decide_eq_true_eq] at *; omega
  ntrans x y z h1 h2 := by rw [ltP] at *; simp only [decide_eq_false_iff_not] at *; omega
end Go.Proofs
