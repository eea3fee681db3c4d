/- PackPlaces: the statement. Conditions: none. -/
import Derived.Test.YthibgmkobcbhhaaGreatZT3
import Derived.Test.YthibgmkobcbhhaaGreatO19
namespace Go.Proofs.YthibgmkobcbhhaaGreat
open Go.Sx Go.RowKit Go.ChangeShapes Go.WideShapes
set_option maxRecDepth 100000 in
theorem packPlaces_lifted (os : Os) (started : os.Started) (H : Type) (enc : TypeId × Value → H) :
    ReturnsInHanded {} Tryz.checked os 3 .any (Rows.packPlacesSpec.pre6 enc Tryz.prog Tryz.f3 Rows.packPlacesRow.domain false) (Rows.packPlacesSpec.post enc Tryz.prog Tryz.f3 false true false false) := by
  refine returnsInHanded_of_change_sized (C := Tryz.checked) Tryz.own started (by kernel_rfl) Tryz.func3
    (ChangeSpec.witness6 (enc := enc) (C := Tryz.checked) false ⟨#[], #[.agg #[.int .i64 0, .slice none 0 0], .slice none 0 0], []⟩ 8 (by kernel_rfl) (by kernel_rfl) (by kernel_rfl) (by kernel_rfl)) ?_
  intro W base args ds gs before hval0 hW hcnd hsz0 _
  have hval : ∀ (j : Nat) t v, Tryz.f3.params[j]? = some t → args[j]? = some v → Value.okWide Tryz.prog W .any base t v := hval0
  have hsz : (DataW.weightsEach Tryz.prog (Tryz.f3.params.toList ++ Rows.packPlacesSpec.plain.varTypes Tryz.prog) (ds ++ gs)).all (· ≤ reachBytes) = true := hsz0
  have hW' : DataW.Whole enc Tryz.prog Tryz.f3.params.toList Rows.packPlacesSpec.vars false W args.toList ds gs before := hW
  obtain ⟨p, q, hA0, hV, rfl, hfz, hnd⟩ := hW
  have hA : DataW.TrodAll enc Tryz.prog W 0 (fun _ => true) true Tryz.f3.params.toList args.toList ds p := hA0
  rw [Tryz.params3] at hA hval hsz
  obtain ⟨v0, v1, d0, d1, p0, p1, rfl, rfl, rfl, h0, h1⟩ := trodAll_two hA
  obtain ⟨rfl, rfl⟩ := trodVars_none hV
  obtain ⟨N, A, n, cap, arcs, rfl, ht, hcapn, hn0⟩ := open_net (hval 0 24 v0 rfl rfl) h0
  obtain ⟨D, r, cap2, zs, rfl, hd, hcap2, hr0⟩ := open_nums (hval 1 25 v1 rfl rfl) h1
  have hn := hn0 140737488355328 (each_le hsz (j := 0) rfl rfl)
  have hr := hr0 140737488355328 (each_le hsz (j := 1) rfl rfl)
  exact calls_true Tryz.laidOut (by kernel_rfl) rfl (by kernel_rfl : Tryz.f3.resultTypes = #[4]) Tryz.underlying4 hW' rfl rfl rfl (lawT3 N A D n r cap cap2 arcs zs (Hp.of W) ht hd hn hr)

theorem packPlaces : Rows.PackPlacesSaid :=
  OpenClaim.holds_of_wide 3 Tryz.f3 rfl rfl rfl rfl rfl rfl rfl ⟨rfl, rfl, rfl, rfl, rfl⟩ rfl rfl rfl rfl rfl (by kernel_rfl) Tryz.func3 (by kernel_rfl)
    (of_decide_eq_true (by kernel_rfl)) (by unfold Func.isWrapper; first | (rw [if_pos (by decide +kernel)]; kernel_rfl) | (rw [if_neg (by decide +kernel)]; exact ⟨rfl, rfl⟩))
    (fun os started H enc _ => packPlaces_lifted os started H enc)
end Go.Proofs.YthibgmkobcbhhaaGreat
