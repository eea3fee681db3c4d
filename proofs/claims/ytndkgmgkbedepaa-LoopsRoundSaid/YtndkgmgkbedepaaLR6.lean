/- LoopsNames: the law's own function answers true. Conditions: none. -/
import Derived.Test.YtndkgmgkbedepaaM17S
namespace Go.Sx
open Go.Proofs
set_option maxRecDepth 100000
theorem rep_runs (x : Int) (n : Nat) : runsR (List.replicate (n + 1) x) = [(x, n + 1)] := by
  have := runsR_rep x [] (by simp) n
  rw [List.append_nil] at this
  rw [this]; rfl
theorem comp_one (x : El) : comp [x] = [x] := (Cend (k := 40) (w := 1) (l := [x]) rfl (by rw [List.length_singleton]; omega)).symm
theorem compR_rep (x : Int) (n : Nat) (hn : n + 1 ≤ 2048) (h0 : 0 ≤ x) (h1 : x < 32) : compR (List.replicate (n + 1) x) = (0, [(((n + 1 : Nat) : Int), x, Fo.nil)]) := by
  unfold compR
  rw [if_neg (by rw [List.length_replicate]; omega), if_neg]
  · rw [rep_runs]
    show (0, comp [(((n + 1 : Nat) : Int), x, Fo.nil)]) = _
    rw [comp_one]
  · rintro ⟨y, hy, hb⟩
    rw [List.eq_of_mem_replicate hy] at hb
    rcases hb with hb | hb <;> omega
def dpF : Nat → Fo
  | 0 => .cons 1 0 .nil .nil
  | k + 1 => .cons 1 0 (dpF k) .nil
theorem ex_deep : (foldR 1 ((dpF 16).app (dpF 16))).1 = 161 := by decide +kernel
theorem ex_17 : (foldR 17 (lf1 0 1 .nil).fo).1 = 1 ∧ foldR 16 (lf1 0 1 .nil).fo = (0, (lf1 0 1 .nil).fo) := by decide +kernel
theorem ex_long (zs : List Int) (h : zs.length = 2048) : (compR (zs ++ [32])).1 = 2 := by
  unfold compR
  rw [if_pos (by rw [List.length_append, h]; decide)]
theorem dpF_cnt : ∀ k, (dpF k).cnt = k + 1
  | 0 => rfl
  | k + 1 => by simp [dpF, Fo.cnt, dpF_cnt k]
theorem lawR6 (h : Hp) : Fn Try.prog 6 #[] h fun v h' => v = .bool true ∧ h.le h' := by
  refine Fn.intro (args := []) mix16 Try.func6 rfl (by decide) Try.ntmps6 rfl (low6 rfl) rfl ?_
  conv => whnf
  refine .mkS [] (Nat × Option Addr × Nat) [1, 2] (fun (i, D, c) => [.v (.slice D i c), .v (iv i)]) (fun _ => [])
    (fun (i, D, c) h' => i ≤ 2048 ∧ Row h h' D i c (List.replicate i 31)) (fun (i, _, _) => 2048 - i) (0, none, 0) (fun _ => rfl) ⟨Nat.zero_le _, Row.nil h⟩ rfl rfl rfl ?_
  rintro ⟨i, D, c⟩ e h' ⟨hi, hq⟩
  refine .done ?_
  conv => whnf
  refine br_dec (fun u => ?_) (fun u => ?_)
  · conv => whnf
    refine .abs 3 1 D i c _ hq.row (.done (.old 1 _ [iv 31] rfl rfl (numsv_one [31]) (by simp [maxLen]; omega) (by omega) fun D2 c2 hD2 => ?_))
    conv => whnf
    refine .ok (by omega) (by omega) ?_
    conv => whnf
    refine .pub 1 3 1 D2 (i + 1) c2 _ rfl fun h4 l4 hro hf => .done ⟨(i + 1, D2, c2), rfl, rfl, ⟨by omega, ?_⟩, by show 2048 - (i + 1) < 2048 - i; omega⟩
    have := hq.step (w := [31]) (Hp.le_refl h') l4 hro hf
    rwa [← List.replicate_succ'] at this
  obtain rfl : i = 2048 := by omega
  have hcr := compR_rep 31 2047 (by decide) (by decide) (by decide)
  have hlz : (List.replicate 2048 (31 : Int)).length = 2048 := List.length_replicate
  obtain ⟨zs, hzs⟩ : ∃ zs, zs = List.replicate 2048 (31 : Int) := ⟨_, rfl⟩
  rw [← hzs] at hq hcr hlz
  have hcl := ex_long zs hlz
  obtain ⟨x17, x16⟩ := ex_17
  clear hzs
  have r1 := hq.row
  have l1 := hq.le
  have lfs : ∀ (H : Hp) (b : Nat), SAt (H.put b (.cells (lf1 0 1 .nil).cl.flatten.toArray 41 (0, 0))) (some ⟨b, 0, none⟩) 1 (lf1 0 1 .nil) := fun H b => sat_lit _ (Hp.put_same _ _ _) (bdw_lf (bdw_nil _))
  conv => whnf
  refine .done (.mk _ (compress18 zs D 2048 c h' r1.nums) ?_)
  rintro _ h2 ⟨l2, A2, m2, c2, p2, rfl, u2, f2⟩
  rw [hcr] at f2 ⊢
  have s2 := u2.sat.mono (Hp.sub_le _ _)
  conv => whnf
  refine .abs 3 1 D 2048 c _ (r1.mono l2) (.done (.old 1 _ [iv 32] rfl rfl (numsv_one [32]) (by decide) (by decide) fun D3 c3 hD3 => ?_))
  conv => whnf
  refine .pub 1 3 1 D3 2049 c3 _ rfl fun h3 l3 ro3 f3 => .done ?_
  have hX : h.le (delA h2 D) := delA_none (Hp.le_trans l1 l2) hq.fr
  have s3 : SAt h3 A2 m2 p2 := by
    refine u2.sat.mono (Hp.le_trans ?_ l3)
    refine delA_none (Hp.sub_le _ _) fun g e => ?_
    cases q : h2.sub h' g.block with
    | none => rfl
    | some o => exact absurd (Hp.sub_out (h' := h2) (by rw [q]; simp)) (r1.mem e)
  have l03 : h.le h3 := Hp.le_trans hX l3
  have ro3 : RowAt h3 3 1 D3 2049 c3 ((zs ++ [32]).map iv) := by rw [List.map_append]; exact ro3
  refine .mk _ (compress18 (zs ++ [32]) D3 2049 c3 h3 ro3.nums) ?_
  rintro _ h4 ⟨l4, A4, m4, c4, p4, rfl, _, _⟩
  rw [hcl]
  conv => whnf
  refine .mk fun b5 hb5 => ?_
  conv => whnf
  have l5 := Hp.le_put (o := .cells (([32] : List Int).map iv).toArray 3 (0, 0)) hb5
  refine .done (.mk _ (compress18 [32] (some ⟨b5, 0, none⟩) 1 1 _ (Tab.lit (Hp.put_same _ _ _) (flat_nums [32]) (ints_wid _) rfl)) ?_)
  rintro _ h6 ⟨l6, A6, m6, c6, p6, rfl, _, _⟩
  rw [ex_bad.2]
  conv => whnf
  refine .done (.mk _ (leaf22 0 1 _) ?_)
  rintro _ h6 ⟨rfl, rfl⟩
  conv => whnf
  refine .mk fun b7 hb7 => ?_
  conv => whnf
  have l7 := Hp.le_put (o := .cells (lf1 0 1 .nil).cl.flatten.toArray 41 (0, 0)) hb7
  refine .done (.mk _ (fold11 17 (lf1 0 1 .nil) (by decide) (some ⟨b7, 0, none⟩) 1 1 _ (lfs _ _) (by decide)) ?_)
  rintro _ h8 ⟨l8, A8, m8, c8, p8, rfl, _, _⟩
  rw [x17]
  conv => whnf
  refine .done (.mk _ (leaf22 0 1 _) ?_)
  rintro _ h8 ⟨rfl, rfl⟩
  conv => whnf
  refine .mk fun b9 hb9 => ?_
  conv => whnf
  have l9 := Hp.le_put (o := .cells (lf1 0 1 .nil).cl.flatten.toArray 41 (0, 0)) hb9
  refine .done (.mk _ (fold11 16 (lf1 0 1 .nil) (by decide) (some ⟨b9, 0, none⟩) 1 1 _ (lfs _ _) (by decide)) ?_)
  rintro _ h10 ⟨l10, A10, m10, c10, p10, rfl, u10, f10⟩
  rw [x16] at f10 ⊢
  have hm10 : m10 = 1 := by have := u10.len; rw [← Lo.fo_len, f10] at this; exact this
  have l410 : h4.le h10 := Hp.le_trans l5 (Hp.le_trans l6 (Hp.le_trans l7 (Hp.le_trans l8 (Hp.le_trans l9 l10))))
  conv => whnf
  refine .done (.mk _ (leaf22 31 2048 _) ?_)
  rintro _ h10 ⟨rfl, rfl⟩
  conv => whnf
  refine .mk fun b11 hb11 => ?_
  conv => whnf
  have l11 := Hp.le_put (o := .cells (lf1 31 2048 .nil).cl.flatten.toArray 41 (0, 0)) hb11
  have s11 := sat_lit (lf1 31 2048 .nil) (h := h10.put b11 _) (Hp.put_same _ _ _) (bdw_lf (bdw_nil _))
  have hc2 : p2.cnt ≤ 200000 := by rw [lo_cnt, f2]; decide
  refine .done (.mk _ (sameLoops13 _ p2 (Nat.lt_succ_self _) hc2 _ A2 (some ⟨b11, 0, none⟩) m2 1 c2 1 _ (s3.mono (Hp.le_trans l4 (Hp.le_trans l410 l11))) s11) ?_)
  rintro _ h12 ⟨rfl, rfl⟩
  rw [decide_eq_true (els_inj (by rw [f2]; rfl)), hm10]
  conv => whnf
  refine .done (.mk _ (leaf22 0 1 _) ?_)
  rintro _ h13 ⟨rfl, rfl⟩
  conv => whnf
  have l0 := Hp.le_trans l03 (Hp.le_trans l4 (Hp.le_trans l410 l11))
  refine .mkS [6] (Nat × Int × Int × Option Addr × Nat × Nat × Lo) [6, 8, 10, 13, 14, 15] (fun (k, _, _, _, _, _, _) => [.v (iv 2), .v (iv 100), .v (iv 1), .v (.bool true), .p 0 0, .v (iv k)]) (fun (_, t, n, B, m, c, _) => [.own ((lcells t n B m c).map .v) 41])
    (fun (k, t, n, B, m, c, b) H => h.le H ∧ k ≤ 16 ∧ SAt H B m b ∧ (Lo.cons t n B m c b .nil).fo = dpF k) (fun (k, _, _, _, _, _, _) => 16 - k) (0, 1, 0, none, 0, 0, .nil) (fun _ => rfl) ⟨l0, by decide, sat_nil _, rfl⟩ rfl rfl rfl ?_
  rintro ⟨k, t, n, B, m, cb, b⟩ e H ⟨lH, hk, hb, hf⟩
  refine .done ?_
  by_cases hk' : k < 16
  · conv => whnf
    refine br_dec (fun u => ?_) (fun u => ?_)
    · conv => whnf
      refine .mk fun bk hbk => ?_
      conv => whnf
      have lk := Hp.le_put (o := .cells (Lo.cons t n B m cb b .nil).cl.flatten.toArray 41 (0, 0)) hbk
      have sk := sat_lit (Lo.cons t n B m cb b .nil) (h := H.put bk _) (Hp.put_same _ _ _) ⟨hb.mono lk, bdw_nil _⟩
      refine .done (.mk _ (block21 1 (some ⟨bk, 0, none⟩) 1 1 _) ?_)
      rintro _ H2 ⟨rfl, rfl⟩
      conv => whnf
      refine .ok (by omega) (by omega) ?_
      conv => whnf
      refine .done ⟨(k + 1, 1, 0, some ⟨bk, 0, none⟩, 1, 1, .cons t n B m cb b .nil), rfl, rfl, ⟨Hp.le_trans lH lk, hk', sk, ?_⟩, by show 16 - (k + 1) < 16 - k; omega⟩
      show Fo.cons 1 0 (Lo.cons t n B m cb b .nil).fo .nil = dpF (k + 1)
      rw [hf]; rfl
    · omega
  · obtain rfl : k = 16 := by omega
    conv => whnf
    refine .mk fun b20 hb20 => ?_
    conv => whnf
    have l20 := Hp.le_put (o := .cells (Lo.cons t n B m cb b (.cons t n B m cb b .nil)).cl.flatten.toArray 41 (0, 0)) hb20
    have s20 := sat_lit (Lo.cons t n B m cb b (.cons t n B m cb b .nil)) (h := H.put b20 _) (Hp.put_same _ _ _) ⟨hb.mono l20, hb.mono l20, bdw_nil _⟩
    have f20 : (Lo.cons t n B m cb b (.cons t n B m cb b .nil)).fo = (dpF 16).app (dpF 16) := by rw [← hf]; rfl
    refine .done (.mk _ (fold11 1 (Lo.cons t n B m cb b (.cons t n B m cb b .nil)) (by rw [← Lo.fo_cnt, f20]; decide) (some ⟨b20, 0, none⟩) 2 2 _ s20 (by decide)) ?_)
    rintro _ h21 ⟨l21, A21, m21, c21, p21, rfl, _, _⟩
    rw [f20, ex_deep]
    conv => whnf
    refine .done (.mk _ (awake15 _) ?_)
    rintro _ h22 ⟨rfl, l22⟩
    conv => whnf
    exact .done ⟨rfl, Hp.le_trans lH (Hp.le_trans l20 (Hp.le_trans l21 l22))⟩
end Go.Sx
