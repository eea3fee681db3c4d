/- PackChecks: the statement. Conditions: none. -/
import Derived.Test.YthibgmkobcbhhaaGreatLT4
import Derived.Test.YthibgmkobcbhhaaGreatO19P
import Derived.Test.YthibgmkobcbhhaaGreatO19
namespace Go.Proofs.YthibgmkobcbhhaaGreat
open Go.Sx Go.RowKit Go.ChangeShapes Go.WideShapes
set_option maxRecDepth 100000 in
theorem packChecks_lifted (os : Os) (started : os.Started) (H : Type) (enc : TypeId × Value → H) :
    ReturnsInHanded {} Tryz.checked os 4 .any (Rows.packChecksSpec.pre6 enc Tryz.prog Tryz.f4 Rows.packChecksRow.domain false) (Rows.packChecksSpec.post enc Tryz.prog Tryz.f4 false true false false) := by
  refine returnsInHanded_of_change_sized (C := Tryz.checked) Tryz.own started (by kernel_rfl) Tryz.func4
    (ChangeSpec.witness6 (enc := enc) (C := Tryz.checked) false ⟨#[], #[.agg #[.int .i64 0, .slice none 0 0], .agg #[.slice none 0 0, .int .i64 0], .slice none 0 0], []⟩ 8 (by kernel_rfl) (by kernel_rfl) (by kernel_rfl) (by kernel_rfl)) ?_
  intro W base args ds gs before hval0 hW hcnd hsz0 _
  have hval : ∀ (j : Nat) t v, Tryz.f4.params[j]? = some t → args[j]? = some v → Value.okWide Tryz.prog W .any base t v := hval0
  have hsz : (DataW.weightsEach Tryz.prog (Tryz.f4.params.toList ++ Rows.packChecksSpec.plain.varTypes Tryz.prog) (ds ++ gs)).all (· ≤ reachBytes) = true := hsz0
  have hW' : DataW.Whole enc Tryz.prog Tryz.f4.params.toList Rows.packChecksSpec.vars false W args.toList ds gs before := hW
  obtain ⟨p, q, hA0, hV, rfl, hfz, hnd⟩ := hW
  have hA : DataW.TrodAll enc Tryz.prog W 0 (fun _ => true) true Tryz.f4.params.toList args.toList ds p := hA0
  rw [Tryz.params4] at hA hval hsz
  obtain ⟨v0, v1, v2, d0, d1, d2, p0, p1, p2, rfl, rfl, rfl, h0, h1, h2⟩ := trodAll_three hA
  obtain ⟨rfl, rfl⟩ := trodVars_none hV
  obtain ⟨N, A, n, cap, arcs, rfl, ht, hcapn, hn0⟩ := open_net (hval 0 24 v0 rfl rfl) h0
  obtain ⟨D, r, cap2, zs, rfl, hd, hcap2, hr0⟩ := open_nums (hval 2 25 v2 rfl rfl) h2
  obtain ⟨F, fn, fcap, rs, tot, rfl, hp, hpc, hp0⟩ := open_plan (hval 1 30 v1 rfl rfl) h1
  have hpn := hp0 140737488355328 (each_le hsz (j := 1) rfl rfl)
  have hn := hn0 140737488355328 (each_le hsz (j := 0) rfl rfl)
  have hr := hr0 140737488355328 (each_le hsz (j := 2) rfl rfl)
  exact calls_true Tryz.laidOut (by kernel_rfl) rfl (by kernel_rfl : Tryz.f4.resultTypes = #[4]) Tryz.underlying4 hW' rfl rfl rfl (lawT4 N A D F n r cap cap2 fn fcap arcs zs rs tot (Hp.of W) ht hd hp hn hr hpn)

theorem packChecks : Rows.PackChecksSaid :=
  OpenClaim.holds_of_wide 4 Tryz.f4 rfl rfl rfl rfl rfl rfl rfl ⟨rfl, rfl, rfl, rfl, rfl⟩ rfl rfl rfl rfl rfl (by kernel_rfl) Tryz.func4 (by kernel_rfl)
    (of_decide_eq_true (by kernel_rfl)) (by unfold Func.isWrapper; first | (rw [if_pos (by decide +kernel)]; kernel_rfl) | (rw [if_neg (by decide +kernel)]; exact ⟨rfl, rfl⟩))
    (fun os started H enc _ => packChecks_lifted os started H enc)
end Go.Proofs.YthibgmkobcbhhaaGreat
