/- NestNames: the law's own function answers true. Conditions: none. -/
import Derived.Test.YtnfmbjeicloemaaN16Y
namespace Go.Sx
open Go.Proofs
theorem leaf_sat {h : Hp} {b : Nat} (t n : Int) : SAt (h.put b (.cells (lcells t n none 0 0).toArray 58 (0, 0))) (some ⟨b, 0, none⟩) 1 (.cons t n none 0 0 .nil .nil) :=
  ⟨rfl, .inr ⟨_, rfl, fun j v hv => by rw [add_lit, add_lit]; exact lit_cell (Hp.put_same _ _ _) (by simpa using hv), rfl, .inl rfl, trivial⟩⟩
theorem blk_sat1 {h : Hp} {b : Nat} {t n : Int} {B : Option Addr} {m c : Nat} {l : Lo} (hb : h b = none) (hs : SAt h B m l) : SAt (h.put b (.cells (lcells t n B m c).toArray 58 (0, 0))) (some ⟨b, 0, none⟩) 1 (.cons t n B m c l .nil) :=
  have s := hs.mono (Hp.le_put (o := .cells (lcells t n B m c).toArray 58 (0, 0)) hb)
  ⟨rfl, .inr ⟨_, rfl, fun j v hv => by rw [add_lit, add_lit]; exact lit_cell (Hp.put_same _ _ _) (by simpa using hv), s.1, s.2, trivial⟩⟩
theorem c2048 : checkF (Fo.cons 2048 0 .nil .nil) = 0 := by simp [checkF, findF, oneF, tot, Fo.leaf]
def chF : Nat → Fo
  | 0 => .cons 1 0 .nil .nil
  | k + 1 => .cons 1 0 (chF k) .nil
set_option maxRecDepth 100000 in
theorem lawQ13 (h : Hp) : Fn Try.prog 13 #[] h fun v h' => v = .bool true ∧ h.le h' := by
  refine FnY.intro (args := []) Try.func13 rfl (by decide) Try.ntmps13 rfl (low13 rfl) rfl ?_
  conv => whnf
  refine .mk fun b1 hb1 => ?_
  conv => whnf
  refine .done (.mk _ (check17 _ (by simp [Lo.cnt]) _ 1 1 _ (leaf_sat 2049 0)) ?_)
  rintro _ h1 ⟨l1, rfl⟩
  rw [show checkF (Lo.cons 2049 0 none 0 0 .nil .nil).fo = 5 by decide]
  have k1 := Hp.le_trans (Hp.le_put hb1) l1
  conv => whnf
  refine .mk fun b2 hb2 => ?_
  conv => whnf
  refine .done (.mk _ (check17 _ (by simp [Lo.cnt]) _ 1 1 _ (leaf_sat 1 32)) ?_)
  rintro _ h2 ⟨l2, rfl⟩
  rw [show checkF (Lo.cons 1 32 none 0 0 .nil .nil).fo = 100 by decide]
  have k2 := Hp.le_trans k1 (Hp.le_trans (Hp.le_put hb2) l2)
  conv => whnf
  refine .mk fun b3 hb3 => ?_
  conv => whnf
  refine .done (.mk _ (check17 _ (by simp [Lo.cnt]) _ 1 1 _ (leaf_sat 0 32)) ?_)
  rintro _ h3 ⟨l3, rfl⟩
  rw [show checkF (Lo.cons 0 32 none 0 0 .nil .nil).fo = 160 by decide]
  have k3 := Hp.le_trans k2 (Hp.le_trans (Hp.le_put hb3) l3)
  conv => whnf
  refine .mk fun b4 hb4 => ?_
  conv => whnf
  refine .mk fun b5 hb5 => ?_
  conv => whnf
  refine .done (.mk _ (check17 _ (by simp [Lo.cnt]) _ 1 1 _ (blk_sat1 (t := 1) (n := 1) (c := 1) hb5 (leaf_sat (b := b4) 1 0))) ?_)
  rintro _ h4 ⟨l4, rfl⟩
  rw [show checkF (Lo.cons 1 1 (some ⟨b4, 0, none⟩) 1 1 (Lo.cons 1 0 none 0 0 .nil .nil) .nil).fo = 162 by show checkF (.cons 1 1 (.cons 1 0 .nil .nil) .nil) = 162; decide]
  have k4 := Hp.le_trans k3 (Hp.le_trans (Hp.le_trans (Hp.le_put hb4) (Hp.le_put hb5)) l4)
  conv => whnf
  refine .unroll 17 ?_
  conv => whnf
  iterate 16
    refine .ok (by decide) (by decide) ?_
    conv => whnf
  refine .mk fun d0 hd0 => ?_
  conv => whnf
  refine .mk fun d1 hd1 => ?_
  conv => whnf
  refine .mk fun d2 hd2 => ?_
  conv => whnf
  refine .mk fun d3 hd3 => ?_
  conv => whnf
  refine .mk fun d4 hd4 => ?_
  conv => whnf
  refine .mk fun d5 hd5 => ?_
  conv => whnf
  refine .mk fun d6 hd6 => ?_
  conv => whnf
  refine .mk fun d7 hd7 => ?_
  conv => whnf
  refine .mk fun d8 hd8 => ?_
  conv => whnf
  refine .mk fun d9 hd9 => ?_
  conv => whnf
  refine .mk fun d10 hd10 => ?_
  conv => whnf
  refine .mk fun d11 hd11 => ?_
  conv => whnf
  refine .mk fun d12 hd12 => ?_
  conv => whnf
  refine .mk fun d13 hd13 => ?_
  conv => whnf
  refine .mk fun d14 hd14 => ?_
  conv => whnf
  refine .mk fun d15 hd15 => ?_
  conv => whnf
  refine .mk fun d16 hd16 => ?_
  conv => whnf
  have s0 := leaf_sat (h := h4) (b := d0) 1 0
  have s1 := blk_sat1 (t := 1) (n := 0) (c := 1) hd1 s0
  have s2 := blk_sat1 (t := 1) (n := 0) (c := 1) hd2 s1
  have s3 := blk_sat1 (t := 1) (n := 0) (c := 1) hd3 s2
  have s4 := blk_sat1 (t := 1) (n := 0) (c := 1) hd4 s3
  have s5 := blk_sat1 (t := 1) (n := 0) (c := 1) hd5 s4
  have s6 := blk_sat1 (t := 1) (n := 0) (c := 1) hd6 s5
  have s7 := blk_sat1 (t := 1) (n := 0) (c := 1) hd7 s6
  have s8 := blk_sat1 (t := 1) (n := 0) (c := 1) hd8 s7
  have s9 := blk_sat1 (t := 1) (n := 0) (c := 1) hd9 s8
  have s10 := blk_sat1 (t := 1) (n := 0) (c := 1) hd10 s9
  have s11 := blk_sat1 (t := 1) (n := 0) (c := 1) hd11 s10
  have s12 := blk_sat1 (t := 1) (n := 0) (c := 1) hd12 s11
  have s13 := blk_sat1 (t := 1) (n := 0) (c := 1) hd13 s12
  have s14 := blk_sat1 (t := 1) (n := 0) (c := 1) hd14 s13
  have s15 := blk_sat1 (t := 1) (n := 0) (c := 1) hd15 s14
  have s16 := blk_sat1 (t := 1) (n := 0) (c := 1) hd16 s15
  have kd0 := Hp.le_put (o := .cells (lcells 1 0 none 0 0).toArray 58 (0, 0)) hd0
  have kd1 := Hp.le_trans kd0 (Hp.le_put (o := .cells (lcells 1 0 (some ⟨d0, 0, none⟩) 1 1).toArray 58 (0, 0)) hd1)
  have kd2 := Hp.le_trans kd1 (Hp.le_put (o := .cells (lcells 1 0 (some ⟨d1, 0, none⟩) 1 1).toArray 58 (0, 0)) hd2)
  have kd3 := Hp.le_trans kd2 (Hp.le_put (o := .cells (lcells 1 0 (some ⟨d2, 0, none⟩) 1 1).toArray 58 (0, 0)) hd3)
  have kd4 := Hp.le_trans kd3 (Hp.le_put (o := .cells (lcells 1 0 (some ⟨d3, 0, none⟩) 1 1).toArray 58 (0, 0)) hd4)
  have kd5 := Hp.le_trans kd4 (Hp.le_put (o := .cells (lcells 1 0 (some ⟨d4, 0, none⟩) 1 1).toArray 58 (0, 0)) hd5)
  have kd6 := Hp.le_trans kd5 (Hp.le_put (o := .cells (lcells 1 0 (some ⟨d5, 0, none⟩) 1 1).toArray 58 (0, 0)) hd6)
  have kd7 := Hp.le_trans kd6 (Hp.le_put (o := .cells (lcells 1 0 (some ⟨d6, 0, none⟩) 1 1).toArray 58 (0, 0)) hd7)
  have kd8 := Hp.le_trans kd7 (Hp.le_put (o := .cells (lcells 1 0 (some ⟨d7, 0, none⟩) 1 1).toArray 58 (0, 0)) hd8)
  have kd9 := Hp.le_trans kd8 (Hp.le_put (o := .cells (lcells 1 0 (some ⟨d8, 0, none⟩) 1 1).toArray 58 (0, 0)) hd9)
  have kd10 := Hp.le_trans kd9 (Hp.le_put (o := .cells (lcells 1 0 (some ⟨d9, 0, none⟩) 1 1).toArray 58 (0, 0)) hd10)
  have kd11 := Hp.le_trans kd10 (Hp.le_put (o := .cells (lcells 1 0 (some ⟨d10, 0, none⟩) 1 1).toArray 58 (0, 0)) hd11)
  have kd12 := Hp.le_trans kd11 (Hp.le_put (o := .cells (lcells 1 0 (some ⟨d11, 0, none⟩) 1 1).toArray 58 (0, 0)) hd12)
  have kd13 := Hp.le_trans kd12 (Hp.le_put (o := .cells (lcells 1 0 (some ⟨d12, 0, none⟩) 1 1).toArray 58 (0, 0)) hd13)
  have kd14 := Hp.le_trans kd13 (Hp.le_put (o := .cells (lcells 1 0 (some ⟨d13, 0, none⟩) 1 1).toArray 58 (0, 0)) hd14)
  have kd15 := Hp.le_trans kd14 (Hp.le_put (o := .cells (lcells 1 0 (some ⟨d14, 0, none⟩) 1 1).toArray 58 (0, 0)) hd15)
  have kd16 := Hp.le_trans kd15 (Hp.le_put (o := .cells (lcells 1 0 (some ⟨d15, 0, none⟩) 1 1).toArray 58 (0, 0)) hd16)
  have c16 := (check17 _ (by simp [Lo.cnt]) _ 1 1 _ s16).mono fun _ _ ⟨a, b⟩ => (⟨a, b.trans (congrArg iv (show checkF (chF 16) = 0 by decide))⟩ : _ ∧ _)
  refine .done (.mk _ c16 ?_)
  rintro _ h5 ⟨l5, rfl⟩
  have k5 := Hp.le_trans k4 (Hp.le_trans kd16 l5)
  conv => whnf
  refine .mk fun e0 he0 => ?_
  conv => whnf
  refine .mk fun e1 he1 => ?_
  conv => whnf
  have x15 := s15.mono (Hp.le_trans (Hp.le_put (o := .cells (lcells 1 0 (some ⟨d15, 0, none⟩) 1 1).toArray 58 (0, 0)) hd16) l5)
  have x16 := blk_sat1 (t := 1) (n := 0) (c := 1) he0 x15
  have x17 := blk_sat1 (t := 1) (n := 0) (c := 1) he1 x16
  have c17 := (check17 _ (by simp [Lo.cnt]) _ 1 1 _ x17).mono fun _ _ ⟨a, b⟩ => (⟨a, b.trans (congrArg iv (show checkF (chF 17) = 161 by decide))⟩ : _ ∧ _)
  refine .done (.mk _ c17 ?_)
  rintro _ h6 ⟨l6, rfl⟩
  have k6 := Hp.le_trans k5 (Hp.le_trans (Hp.le_put (o := .cells (lcells 1 0 (some ⟨d15, 0, none⟩) 1 1).toArray 58 (0, 0)) he0) (Hp.le_trans (Hp.le_put he1) l6))
  conv => whnf
  refine .done (.mk _ (awake16 _) ?_)
  rintro _ h7 ⟨rfl, l7⟩
  conv => whnf
  refine .mk fun f0 hf0 => ?_
  conv => whnf
  have c18 := (check17 _ (by simp [Lo.cnt]) _ 1 1 _ (leaf_sat (h := h7) (b := f0) 2048 0)).mono fun _ _ ⟨a, b⟩ => (⟨a, b.trans (congrArg iv c2048)⟩ : _ ∧ _)
  refine .done (.mk _ c18 ?_)
  rintro _ h8 ⟨l8, rfl⟩
  conv => whnf
  exact .done ⟨rfl, Hp.le_trans k6 (Hp.le_trans l7 (Hp.le_trans (Hp.le_put hf0) l8))⟩
end Go.Sx
