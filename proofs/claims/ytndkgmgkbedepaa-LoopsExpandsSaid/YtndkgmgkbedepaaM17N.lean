/- A row folded: the document's pass. Conditions: none. -/
import Derived.Test.YtndkgmgkbedepaaM17J
namespace Go.Sx
open Go.Proofs
set_option maxRecDepth 100000
set_option maxHeartbeats 1000000
noncomputable def irT37 : IR := (IR.seq (IR.seq (IR.reg ir37_r8) (IR.cond (Arg.t 46) (IR.seq (IR.reg ir37_r9) (IR.seq (IR.reg ir37_r10) (IR.exit 1))) IR.skip)) (IR.seq (IR.reg ir37_r11) (IR.reg ir37_r12)))
theorem l1_eq37 : ir37_l1 = .seq (.seq (.reg ir37_r4) (.cond (.t 11) .skip (.exit 0))) (.block 1 (.seq (.reg ir37_r5) (.seq (.block 2 (.loop ir37_l2)) irT37))) := rfl
structure Pass0 (H : Hp) (A : Option Addr) (m c : Nat) (l : Lo) : Prop where
  sat : SAt H A m l
  ca : m ≤ c
  le : m ≤ 200000
  cnt : l.cnt ≤ 200000
abbrev Lp (E : Option Addr) (j ec : Nat) (re : List Value) : List LE := [.row 41 3 E j ec re]
theorem stepHd37 (c0 : IR) (Q : Post) (e : Env) {H : Hp} {A : Option Addr} {m c w i : Nat} (E : Option Addr) (j ec : Nat) (re : List Value) (he : [0, 1, 5, 6].map e = [.v (iv w), .v (.slice A m c), .v (.slice E j ec), .v (iv i)])
    (h1 : i < m → ∀ e, [0, 1, 5, 6].map e = [.v (iv w), .v (.slice A m c), .v (.slice E j ec), .v (iv i)] → wpIR Try.prog 73 c0 Q e (Lp E j ec re) H)
    (h2 : m ≤ i → ∀ e, [0, 1, 5, 6].map e = [.v (iv w), .v (.slice A m c), .v (.slice E j ec), .v (iv i)] → Q (.exit 0) e (Lp E j ec re) H) :
    wpIR Try.prog 73 (.seq (.seq (.reg ir37_r4) (.cond (.t 11) .skip (.exit 0))) c0) Q e (Lp E j ec re) H := by
  have hself := updL_self [0, 1, 5, 6] e
  rw [he] at hself
  rw [← hself]
  conv => whnf
  refine br_dec (fun u => ?_) (fun u => ?_)
  · conv => whnf
    exact h1 (by omega) _ rfl
  · conv => whnf
    exact h2 (by omega) _ rfl
theorem stepW37 (c0 : IR) (Q : Post) (e : Env) {H : Hp} {A : Option Addr} {m c : Nat} {l : Lo} (x : Pass0 H A m c l) {w : Nat} (hw : 1 ≤ w) (hw2 : w ≤ 16) {i : Nat} (hi : i < m)
    (E : Option Addr) (j ec : Nat) (re : List Value) (he : [0, 1, 5, 6].map e = [.v (iv w), .v (.slice A m c), .v (.slice E j ec), .v (iv i)])
    (hQ : ∀ e k, IsRep w (l.fo.els.drop i) k → k ≤ m → [0, 1, 5, 6, 7].map e = [.v (iv w), .v (.slice A m c), .v (.slice E j ec), .v (iv i), .v (iv k)] → wpIR Try.prog 73 c0 Q e (Lp E j ec re) H) :
    wpIR Try.prog 73 (.seq (.reg ir37_r5) (.seq (.block 2 (.loop ir37_l2)) c0)) Q e (Lp E j ec re) H := by
  have hself := updL_self [0, 1, 5, 6] e
  rw [he] at hself
  rw [← hself]
  have hml := x.le
  have hca := x.ca
  have hel : l.fo.els.length = m := by rw [fo_els_len]; exact x.sat.1.symm
  conv => whnf
  refine .mk Nat [0, 1, 5, 6, 7] (fun k => [.v (iv w), .v (.slice A m c), .v (.slice E j ec), .v (iv i), .v (iv k)]) (fun _ => Lp E j ec re) (fun k h' => h' = H ∧ 1 ≤ k ∧ k ≤ m ∧ ∀ q, 1 ≤ q → q < k → GrpOk w (l.fo.els.drop i) q) (fun k => m - k) 1 (fun _ => rfl) ⟨rfl, Nat.le_refl _, by omega, fun q h1 h2 => by omega⟩ rfl rfl ?_
  rintro k e h' ⟨rfl, hk1, hkm, hg⟩
  have hb1 : (k + 1) * w ≤ 200001 * 16 := Nat.mul_le_mul (by omega) hw2
  have hb2 : k * w ≤ 200001 * 16 := Nat.mul_le_mul (by omega) hw2
  have e1 : ((k : Int) + 1) * w = (((k + 1) * w : Nat) : Int) := by push_cast; rfl
  have e2 : (k : Int) * w = ((k * w : Nat) : Int) := by push_cast; rfl
  have hkk : k ≤ k * w := Nat.le_mul_of_pos_right k hw
  have hks : (k + 1) * w = k * w + w := Nat.succ_mul k w
  conv => whnf
  refine .ok (by omega) (by omega) ?_
  conv => whnf
  refine .ok (by omega) (by omega) ?_
  conv => whnf
  refine .ok (by omega) (by omega) ?_
  conv => whnf
  refine br_dec (fun u => ?_) (fun u => ?_)
  · have hroom : i + (k + 1) * w ≤ m := by omega
    conv => whnf
    refine .ok (by omega) (by omega) ?_
    conv => whnf
    refine .mk i (i + w) rfl (by push_cast; rfl) (Nat.le_add_right _ _) (by omega) fun B hB1 hB2 => ?_
    conv => whnf
    refine .ok (by omega) (by omega) ?_
    conv => whnf
    refine .ok (by omega) (by omega) ?_
    conv => whnf
    refine .ok (by omega) (by omega) ?_
    conv => whnf
    refine .ok (by omega) (by omega) ?_
    conv => whnf
    refine .ok (by omega) (by omega) ?_
    conv => whnf
    refine .mk (i + k * w) (i + (k + 1) * w) (by push_cast; rfl) (by push_cast; rfl) (by omega) (by omega) fun B2 hB21 hB22 => ?_
    have s1 := sat_part (w := w) x.sat (i := i) (B := B) (by omega) (fun _ => hB1 (by omega))
    have s2 := sat_part (w := w) x.sat (i := i + k * w) (B := B2) (by omega) (fun _ => hB21 (by omega))
    have w1 : i + w - i = w := by omega
    have w2 : i + (k + 1) * w - (i + k * w) = w := by omega
    have hgrp : GrpOk w (l.fo.els.drop i) k ↔ ((l.dr i).tk w).fo = ((l.dr (i + k * w)).tk w).fo := by
      unfold GrpOk
      rw [List.length_drop, List.drop_drop]
      constructor
      · intro h
        apply els_inj
        rw [tk_els, tk_els, dr_els, dr_els]
        exact h.2.symm
      · intro h
        refine ⟨by omega, ?_⟩
        have := congrArg Fo.els h
        rw [tk_els, tk_els, dr_els, dr_els] at this
        exact this.symm
    conv => whnf
    have hcn : ((l.dr i).tk w).cnt ≤ 200000 := Nat.le_trans (tk_cnt _ _) (Nat.le_trans (dr_cnt _ _) x.cnt)
    rw [w1, w2]
    refine .done (.mk _ (sameLoops13 _ ((l.dr i).tk w) (Nat.lt_succ_self _) hcn ((l.dr (i + k * w)).tk w) B B2 w w _ _ h' s1 s2) ?_)
    rintro _ _ ⟨rfl, rfl⟩
    conv => whnf
    refine br_dec (fun v => ?_) (fun v => ?_)
    · conv => whnf
      refine .ok (by omega) (by omega) ?_
      conv => whnf
      refine ⟨k + 1, rfl, rfl, ⟨rfl, by omega, by omega, fun q h1 h2 => ?_⟩, by omega⟩
      by_cases hq : q = k
      · subst hq; exact hgrp.2 v
      · exact hg q h1 (by omega)
    · conv => whnf
      exact hQ _ k ⟨hk1, hg, fun h => v (hgrp.1 h)⟩ hkm rfl
  · conv => whnf
    refine hQ _ k ⟨hk1, hg, fun h => ?_⟩ hkm rfl
    have := h.1
    rw [List.length_drop] at this
    omega
theorem stepT37 (Q : Post) (e : Env) {H : Hp} {A : Option Addr} {m c : Nat} {l : Lo} (x : Pass0 H A m c l) {H0 : Hp} (x0 : Pass0 H0 A m c l) {w : Nat} (hw : 1 ≤ w) (hw2 : w ≤ 16) {i : Nat} (hi : i < m) {k : Nat} (hk : IsRep w (l.fo.els.drop i) k) (hkm : k ≤ m)
    (E : Option Addr) (j ec : Nat) (re : List Value) (hj : j ≤ 200000) (he : [0, 1, 5, 6, 7].map e = [.v (iv w), .v (.slice A m c), .v (.slice E j ec), .v (iv i), .v (iv k)])
    (hQ1 : k = 1 → ∀ e' E2 ec2 X t n B m' cb b r, l.dr i = .cons t n B m' cb b r → SAt H B m' b → [0, 1, 5, 6].map e' = [.v (iv w), .v (.slice A m c), .v (.slice E2 (j + 1) ec2), .v (iv ((i + 1 : Nat) : Int))] →
      Q (.exit 1) e' (Lp E2 (j + 1) ec2 (re ++ lcells t n B m' cb) ++ X) H)
    (hQ2 : 2 ≤ k → ∀ e' E2 ec2 X B cb, SAt H0 B w ((l.dr i).tk w) → [0, 1, 5, 6].map e' = [.v (iv w), .v (.slice A m c), .v (.slice E2 (j + 1) ec2), .v (iv ((i + k * w : Nat) : Int))] →
      Q .normal e' (Lp E2 (j + 1) ec2 (re ++ lcells k 0 B w cb) ++ X) H) :
    wpIR Try.prog 73 irT37 Q e (Lp E j ec re) H := by
  have hself := updL_self [0, 1, 5, 6, 7] e
  rw [he] at hself
  rw [← hself]
  have hml := x.le
  have hel : l.fo.els.length = m := by rw [fo_els_len]; exact x.sat.1.symm
  have ht := tl_part x.sat (Nat.le_of_lt hi)
  conv => whnf
  refine br_dec (fun u => ?_) (fun u => ?_)
  · have hk1 : k = 1 := by omega
    cases hr : l.dr i with
    | nil =>
      rw [hr] at ht
      have := ht.fin; omega
    | cons t n B m' cb b r =>
      rw [hr] at ht
      obtain ⟨gA, hA, _, hcc, hb, _⟩ := ht.open
      conv => whnf
      refine .mk gA hA (by omega) (by omega) ?_
      conv => whnf
      refine .hp (lcells t n B m' cb) rfl (by rw [Int.toNat_natCast]; exact hcc) ?_
      conv => whnf
      refine .done (.old 0 _ (lcells t n B m' cb) rfl rfl (lcells_one _ _ _ _ _) (by simp [maxLen]; omega) (by omega) fun E2 ec2 hE2 => ?_)
      conv => whnf
      refine .ok (by omega) (by omega) ?_
      conv => whnf
      exact hQ1 hk1 _ E2 ec2 _ t n B m' cb b r hr hb rfl
  · have hk2 : 2 ≤ k := by have := hk.pos; omega
    have hroom := hk.room hk2
    rw [List.length_drop] at hroom
    have hkw : 1 * w ≤ k * w := Nat.mul_le_mul_right w (by omega)
    have hb2 : k * w ≤ 200001 * 16 := Nat.mul_le_mul (by omega) hw2
    have ekw : (k : Int) * w = ((k * w : Nat) : Int) := by push_cast; rfl
    have hca := x.ca
    conv => whnf
    refine .ok (by omega) (by omega) ?_
    conv => whnf
    refine .mk i (i + w) rfl (by push_cast; rfl) (Nat.le_add_right _ _) (by omega) fun B hB1 hB2 => ?_
    have w1 : i + w - i = w := by omega
    rw [w1]
    conv => whnf
    refine .done (.old 0 _ (lcells k 0 B w (c - i)) rfl rfl (lcells_one _ _ _ _ _) (by simp [maxLen]; omega) (by omega) fun E2 ec2 hE2 => ?_)
    conv => whnf
    refine .ok (by omega) (by omega) ?_
    conv => whnf
    refine .ok (by omega) (by omega) ?_
    conv => whnf
    exact hQ2 hk2 _ E2 ec2 _ B (c - i) (sat_part x0.sat (by omega) fun _ => hB1 (by omega)) rfl
structure Pst (h : Hp) (es : List El) (m w : Nat) (h' : Hp) (i : Nat) (E : Option Addr) (ec j : Nat) (p : Lo) : Prop where
  le : h.le h'
  im : i ≤ m
  out : p.fo.els ++ pass w (es.drop i) = pass w es
  len : p.len = j
  ji : j ≤ i
  rowE : RowAt h' 41 3 E j ec p.cl.flatten
  bds : Bdw SK h p
  fE : ∀ g, E = some g → h g.block = none
theorem pass37 {h : Hp} {A : Option Addr} {m c : Nat} {l : Lo} (hs : SAt h A m l) (hca : m ≤ c) (hc : l.cnt ≤ 200000) {w : Nat} (hw : 1 ≤ w) (hw2 : w ≤ 16) :
    Fn Try.prog 37 #[iv w, .slice A m c] h fun v h' => ∃ E j ec p, v = .slice E j ec ∧ h.le h' ∧ SAt h' E j p ∧ p.fo.els = pass w l.fo.els ∧ j ≤ ec := by
  have hm : m ≤ 200000 := by have := hs.1; have := l.len_cnt; omega
  have hel : l.fo.els.length = m := by rw [fo_els_len]; exact hs.1.symm
  have x : Pass0 h A m c l := ⟨hs, hca, hm, hc⟩
  refine Fn.intro (args := [iv w, .slice A m c]) mix16 Try.func37 rfl (by decide) Try.ntmps37 rfl (low37 rfl) rfl ?_
  conv => whnf
  refine .mkS [] (Nat × Option Addr × Nat × Nat × Lo) [0, 1, 5, 6] (fun (i, E, ec, j, _) => [.v (iv w), .v (.slice A m c), .v (.slice E j ec), .v (iv i)]) (fun _ => [])
    (fun (i, E, ec, j, p) h' => Pst h l.fo.els m w h' i E ec j p) (fun (i, _, _, _, _) => m - i) (0, none, 0, 0, .nil) (fun _ => rfl)
    ⟨Hp.le_refl h, Nat.zero_le _, rfl, rfl, Nat.le_refl _, ⟨rfl, .inl ⟨rfl, rfl, rfl⟩⟩, trivial, (fun _ e => by cases e)⟩ rfl rfl rfl ?_
  rintro ⟨i, E, ec, j, p⟩ e h' S
  have hX := delA_none S.le S.fE
  refine .abs 41 3 E j ec _ S.rowE (.done ?_)
  have xX : Pass0 (delA h' E) A m c l := ⟨hs.mono hX, hca, hm, hc⟩
  have fin : ∀ {i' : Nat} {E2 : Option Addr} {ec2 : Nat} {t n : Int} {B : Option Addr} {mb cb : Nat} {b : Lo}, i < i' → i' ≤ m → pass w (l.fo.els.drop i) = (t, n, b.fo) :: pass w (l.fo.els.drop i') → SAt h B mb b →
      ∀ {h4 : Hp}, (delA h' E).le h4 → RowAt h4 41 3 E2 (j + 1) ec2 (p.cl.flatten ++ lcells t n B mb cb) → (∀ g, E2 = some g → delA h' E g.block = none) →
      Pst h l.fo.els m w h4 i' E2 ec2 (j + 1) (p.snoc t n B mb cb b) := by
    intro i' E2 ec2 t n B mb cb b a4 a5 a6 a7 h4 l4 ro4 f4
    have s2 := S.ji
    refine ⟨Hp.le_trans hX l4, a5, ?_, by rw [Lo.snoc_len, S.len], by omega, ?_, Lo.snoc_bdw _ _ _ _ _ _ a7 S.bds, fun g e => Hp.none_le hX (f4 g e)⟩
    · rw [Lo.snoc_els, ← S.out, a6, List.append_assoc]; rfl
    · rw [Lo.snoc_cl, List.flatten_append, List.flatten_singleton]; exact ro4
  show wpIR Try.prog 73 (.seq (.seq (.reg ir37_r4) (.cond (.t 11) .skip (.exit 0))) (.block 1 (.seq (.reg ir37_r5) (.seq (.block 2 (.loop ir37_l2)) irT37)))) _ _ _ _
  refine stepHd37 _ _ _ E j ec _ rfl (fun hi e he => ?_) (fun hi e he => ?_)
  · show wpIR Try.prog 73 (.seq (.reg ir37_r5) (.seq (.block 2 (.loop ir37_l2)) irT37)) _ _ _ _
    refine stepW37 irT37 _ _ xX hw hw2 hi E j ec _ he (fun e k hk hkm he => ?_)
    have s2 := S.ji
    have s3 := S.im
    refine stepT37 _ _ xX x hw hw2 hi hk hkm E j ec _ (by omega) he ?_ ?_
    · rintro rfl e' E2 ec2 X t n B mb cb b r hdr hb he'
      have hd : l.fo.els.drop i = (t, n, b.fo) :: l.fo.els.drop (i + 1) := by
        have q1 := dr_els i l
        rw [hdr] at q1
        have q2 : l.fo.els.drop (i + 1) = (l.fo.els.drop i).drop 1 := by rw [List.drop_drop]
        rw [q2, ← q1]; rfl
      have hb0 : SAt h B mb b := by
        have tl := tl_part hs (Nat.le_of_lt hi)
        rw [hdr] at tl
        obtain ⟨_, _, _, _, hb0, _⟩ := tl.open
        exact hb0
      refine .pub 0 41 3 E2 (j + 1) ec2 _ rfl fun h4 l4 ro4 f4 => .done ⟨(i + 1, E2, ec2, j + 1, p.snoc t n B mb cb b), he', rfl, ?_, by show m - (i + 1) < m - i; omega⟩
      refine fin (Nat.lt_succ_self i) hi ?_ hb0 l4 ro4 f4
      rw [hd] at hk ⊢
      exact pass_one hw hk
    · intro hk2 e' E2 ec2 X B cb hB he'
      have hroom := hk.room hk2
      rw [List.length_drop] at hroom
      have hkw : 2 * w ≤ k * w := Nat.mul_le_mul_right w hk2
      have hmk : mkF ((l.fo.els.drop i).take w) = ((l.dr i).tk w).fo := by
        rw [← dr_els, ← tk_els, mk_els]
      refine .pub 0 41 3 E2 (j + 1) ec2 _ rfl fun h4 l4 ro4 f4 => .done ⟨(i + k * w, E2, ec2, j + 1, p.snoc k 0 B w cb ((l.dr i).tk w)), he', rfl, ?_, by show m - (i + k * w) < m - i; omega⟩
      refine fin (by omega) (by omega) ?_ hB l4 ro4 f4
      rw [pass_many hw hk hk2, hmk, List.drop_drop]
  · have him : i = m := by have := S.im; omega
    subst him
    have hself := updL_self [0, 1, 5, 6] e
    rw [he] at hself
    rw [← hself]
    have hout := S.out
    rw [List.drop_of_length_le (by omega), pass_nil, List.append_nil] at hout
    conv => whnf
    refine .pub 0 41 3 E j ec _ rfl fun h4 l4 ro4 f4 => .done ⟨E, j, ec, p, rfl, Hp.le_trans hX l4, ?_, hout, row_capn ro4⟩
    exact Tab.sat (l := p) (A := E) (n := j) (RowAt.tab ro4 p.cl_wid (by decide)) (S.bds.mono SK.mono (Hp.le_trans hX l4))
end Go.Sx
namespace Go.Sx
open Go.Proofs
def Good : Fo → Prop
  | .nil => True
  | .cons t n b r => 1 ≤ t ∧ (b.leaf = true → 0 ≤ n ∧ n < 32) ∧ (b.leaf = false → n = 0) ∧ Good b ∧ Good r
theorem good_of : ∀ (f : Fo) (d k : Nat), (findF f d k).1 = 0 → Good f
  | .nil, _, _, _ => trivial
  | .cons t n b r, d, k, h => by
    simp only [findF] at h
    split at h
    · rename_i h1
      have hr := good_of r d _ h
      unfold oneF at h1
      split at h1
      · cases h1
      split at h1
      · cases h1
      split at h1
      · cases h1
      rename_i ht
      split at h1
      · rename_i hl
        split at h1
        · cases h1
        · refine ⟨by omega, fun _ => by omega, (fun q => by rw [hl] at q; cases q), ?_, hr⟩
          rw [leaf_nil hl]; trivial
      · rename_i hl
        split at h1
        · cases h1
        · exact ⟨by omega, fun q => absurd q hl, fun _ => by omega, good_of b (d + 1) k h1, hr⟩
    · rename_i h1; exact absurd h h1
theorem Good.pos : ∀ {f : Fo}, Good f → Pos f
  | .nil, _ => trivial
  | .cons _ _ _ _, ⟨a, _, _, b, c⟩ => ⟨a, b.pos, c.pos⟩
theorem find_good : ∀ (f : Fo) (d k : Nat), Good f → k + firs f ≤ 2048 → d + deep f ≤ 16 → findF f d k = (0, k + firs f)
  | .nil, _, _, _, _, _ => rfl
  | .cons t n b r, d, k, ⟨h1, h2, h3, h4, h5⟩, hk, hd => by
    simp only [firs, deep] at hk hd ⊢
    cases hl : b.leaf with
    | true =>
      rw [hl] at hk hd
      simp only [cond_true] at hk hd ⊢
      have e : ∀ rb, oneF t n true d k rb = (0, k + 1) := fun rb => by
        unfold oneF
        have := h2 hl
        rw [if_neg (by omega), if_neg (by simp), if_neg (by omega), if_pos rfl, if_neg (by omega)]
      simp only [findF, hl, e]
      rw [if_pos trivial, find_good r d (k + 1) h5 (by omega) (by omega)]
      congr 1; omega
    | false =>
      rw [hl] at hk hd
      simp only [cond_false] at hk hd ⊢
      have hb := firs_pos (f := b) hl
      have e : oneF t n false d k (findF b (d + 1) k) = (0, k + firs b) := by
        unfold oneF
        rw [if_neg (by omega), if_neg (by omega), if_neg (by omega), if_neg (by simp), if_neg (by rw [h3 hl]; simp), find_good b (d + 1) k h4 (by omega) (by omega)]
      simp only [findF, hl, e]
      rw [if_pos trivial, find_good r d _ h5 (by omega) (by omega)]
      congr 1; omega
theorem find_deep : ∀ (f : Fo) (d k : Nat), Good f → k + firs f ≤ 2048 → d ≤ 16 → 16 < d + deep f → (findF f d k).1 = 161
  | .nil, _, _, _, _, h, h2 => by simp [deep] at h2; omega
  | .cons t n b r, d, k, ⟨h1, h2, h3, h4, h5⟩, hk, hd, hd2 => by
    simp only [firs, deep] at hk hd2 ⊢
    cases hl : b.leaf with
    | true =>
      rw [hl] at hk hd2
      simp only [cond_true] at hk hd2
      have e : ∀ rb, oneF t n true d k rb = (0, k + 1) := fun rb => by
        unfold oneF
        have := h2 hl
        rw [if_neg (by omega), if_neg (by simp), if_neg (by omega), if_pos rfl, if_neg (by omega)]
      simp only [findF, hl, e]
      rw [if_pos trivial]
      exact find_deep r d (k + 1) h5 (by omega) hd (by omega)
    | false =>
      rw [hl] at hk hd2
      simp only [cond_false] at hk hd2
      have hb := firs_pos (f := b) hl
      by_cases h16 : 16 ≤ d
      · have e : oneF t n false d k (findF b (d + 1) k) = (161, k) := by
          unfold oneF
          rw [if_neg (by omega), if_pos ⟨rfl, h16⟩]
        simp only [findF, hl, e]
        rw [if_neg (by decide)]
      · by_cases hdb : d + 1 + deep b ≤ 16
        · have e : oneF t n false d k (findF b (d + 1) k) = (0, k + firs b) := by
            unfold oneF
            rw [if_neg (by omega), if_neg (by omega), if_neg (by omega), if_neg (by simp), if_neg (by rw [h3 hl]; simp), find_good b (d + 1) k h4 (by omega) (by omega)]
          simp only [findF, hl, e]
          rw [if_pos trivial]
          exact find_deep r d _ h5 (by omega) hd (by omega)
        · have e0 := find_deep b (d + 1) k h4 (by omega) (by omega) (by omega)
          have e : oneF t n false d k (findF b (d + 1) k) = findF b (d + 1) k := by
            unfold oneF
            rw [if_neg (by omega), if_neg (by omega), if_neg (by omega), if_neg (by simp), if_neg (by rw [h3 hl]; simp)]
          simp only [findF, hl, e]
          rw [if_neg (by rw [e0]; decide), e0]
theorem check_good {f : Fo} (h : Good f) (ht : tot f ≤ 2048) : checkF f = if deep f ≤ 16 then 0 else 161 := by
  have hf := firs_tot f h.pos
  unfold checkF
  split
  · rename_i h1
    split
    · rename_i hd
      rw [find_good f 0 0 h (by omega) (by omega)] at h1
      exact absurd rfl h1
    · rename_i hd
      exact find_deep f 0 0 h (by omega) (by omega) (by omega)
  · rename_i h1
    rw [if_neg (by omega)]
    split
    · rfl
    · rename_i hd
      rw [find_deep f 0 0 h (by omega) (by omega) (by omega)] at h1
      simp at h1
theorem check_is {f : Fo} (h : checkF f = 0) : Good f ∧ tot f ≤ 2048 ∧ deep f ≤ 16 := by
  obtain ⟨h1, h2⟩ := checkF_ok h
  have h3 := deep_le f 0 0 h1 (by omega)
  exact ⟨good_of f 0 0 h1, h2, by omega⟩
/-! ### rows -/
def GoodE (x : El) : Prop := 1 ≤ x.1 ∧ (x.2.2.leaf = true → 0 ≤ x.2.1 ∧ x.2.1 < 32) ∧ (x.2.2.leaf = false → x.2.1 = 0) ∧ Good x.2.2
theorem good_mk : ∀ l : List El, Good (mkF l) ↔ ∀ x ∈ l, GoodE x
  | [] => ⟨(fun _ x h => by cases h), fun _ => trivial⟩
  | (t, n, b) :: l => by
    simp only [mkF, Good, good_mk l, List.mem_cons, forall_eq_or_imp, GoodE]
    constructor
    · rintro ⟨a, b, c, d, e⟩; exact ⟨⟨a, b, c, d⟩, e⟩
    · rintro ⟨⟨a, b, c, d⟩, e⟩; exact ⟨a, b, c, d, e⟩
theorem mk_leaf (l : List El) : (mkF l).leaf = decide (l = []) := by
  cases l with
  | nil => rfl
  | cons x l => obtain ⟨t, n, b⟩ := x; simp [mkF, Fo.leaf]
theorem flat_mk_app (a b : List El) : flat (mkF (a ++ b)) = flat (mkF a) ++ flat (mkF b) := by rw [mkF_app, flat_app]
theorem rep_comm {α : Type} (w : List α) : ∀ k, w ++ rep k w = rep k w ++ w
  | 0 => by simp [rep]
  | k + 1 => by simp only [rep]; rw [List.append_assoc, ← rep_comm w k]
theorem IsRep.fl {w : Nat} {l : List El} {m : Nat} (r : IsRep w l m) : ∀ j, j ≤ m → flat (mkF (l.take (j * w))) = rep j (flat (mkF (l.take w)))
  | 0, _ => by simp [mkF, flat, rep]
  | j + 1, hj => by
    have ih := r.fl j (by omega)
    have hs : l.take ((j + 1) * w) = l.take (j * w) ++ (l.drop (j * w)).take w := by
      rw [Nat.succ_mul, List.take_add]
    rw [hs, flat_mk_app, ih]
    simp only [rep]
    rw [rep_comm]
    congr 2
    by_cases h0 : j = 0
    · subst h0; simp
    · rw [(r.ok j (by omega) (by omega)).2]
theorem pass_keeps {w : Nat} (hw : 1 ≤ w) : ∀ (N : Nat) (l : List El), l.length ≤ N → flat (mkF (pass w l)) = flat (mkF l) ∧ ((∀ x ∈ l, GoodE x) → ∀ x ∈ pass w l, GoodE x)
  | N, [], _ => ⟨rfl, fun h => h⟩
  | 0, x :: l, h => by simp at h
  | N + 1, x :: l, h => by
    simp only [List.length_cons] at h
    have hr := rep_is hw (x :: l)
    by_cases h1 : reps w (x :: l) = 1
    · rw [h1] at hr
      obtain ⟨a, b⟩ := pass_keeps hw N l (by omega)
      rw [pass_one hw hr]
      refine ⟨?_, fun hg y hy => ?_⟩
      · have e1 := flat_mk_app [x] (pass w l)
        have e2 := flat_mk_app [x] l
        simp only [List.cons_append, List.nil_append] at e1 e2
        rw [e1, e2, a]
      · rcases List.mem_cons.1 hy with rfl | hy
        · exact hg _ (List.mem_cons_self ..)
        · exact b (fun z hz => hg z (List.mem_cons_of_mem _ hz)) y hy
    · have h2 : 2 ≤ reps w (x :: l) := by have := hr.pos; omega
      obtain ⟨m, hm⟩ : ∃ m, m = reps w (x :: l) := ⟨_, rfl⟩
      rw [← hm] at hr h2
      have hroom := hr.room h2
      have hmw : 2 * w ≤ m * w := Nat.mul_le_mul_right w h2
      rw [pass_many hw hr h2]
      obtain ⟨l', hl'⟩ : ∃ l', l' = x :: l := ⟨_, rfl⟩
      rw [← hl'] at hr hroom ⊢
      have hlen : l'.length = l.length + 1 := by rw [hl']; rfl
      obtain ⟨a, b⟩ := pass_keeps hw N (l'.drop (m * w)) (by rw [List.length_drop]; omega)
      have hne : l'.take w ≠ [] := by
        intro q
        have := congrArg List.length q
        rw [List.length_take, List.length_nil] at this
        omega
      have hlf : (mkF (l'.take w)).leaf = false := by rw [mk_leaf, decide_eq_false hne]
      refine ⟨?_, fun hg y hy => ?_⟩
      · have e2 : flat (mkF l') = flat (mkF (l'.take (m * w))) ++ flat (mkF (l'.drop (m * w))) := by
          rw [← flat_mk_app, List.take_append_drop]
        rw [e2, ← a, hr.fl m (Nat.le_refl _)]
        simp only [mkF, flat, hlf]
        rfl
      · rcases List.mem_cons.1 hy with rfl | hy
        · refine ⟨by have h3 : 1 ≤ m := Nat.le_trans (by decide) h2; exact Int.ofNat_le.2 h3, (fun q => by rw [show (mkF (l'.take w)).leaf = true from q] at hlf; cases hlf), (fun _ => rfl), (good_mk _).2 fun z hz => hg z (List.mem_of_mem_take hz)⟩
        · exact b (fun z hz => hg z (List.mem_of_mem_drop hz)) y hy
theorem pass_check {w : Nat} (hw : 1 ≤ w) {f : Fo} (h : checkF f = 0) : Good (mkF (pass w f.els)) ∧ tot (mkF (pass w f.els)) ≤ 2048 ∧ flat (mkF (pass w f.els)) = flat f ∧ (checkF (mkF (pass w f.els)) ≠ 0 → checkF (mkF (pass w f.els)) = 161) := by
  obtain ⟨h1, h2, h3⟩ := check_is h
  obtain ⟨a, b⟩ := pass_keeps hw _ f.els (Nat.le_refl _)
  rw [mk_els] at a
  have hg := (good_mk _).2 (b ((good_mk _).1 (by rw [mk_els]; exact h1)))
  have ht : tot (mkF (pass w f.els)) ≤ 2048 := by rw [← flat_len, a, flat_len]; exact h2
  refine ⟨hg, ht, a, fun hne => ?_⟩
  rw [check_good hg ht] at hne ⊢
  split at hne
  · exact absurd rfl hne
  · rename_i q; rw [if_neg q]
/-- what folding answers -/
def foldR (w : Int) (f : Fo) : Int × Fo := if checkF f ≠ 0 then (checkF f, .nil) else if w < 1 ∨ 16 < w then (1, .nil) else if checkF (mkF (pass w.toNat f.els)) ≠ 0 then (161, .nil) else (0, mkF (pass w.toNat f.els))
end Go.Sx
namespace Go.Sx
open Go.Proofs
set_option maxRecDepth 100000
theorem uw_nil (h : Hp) : UW h none 0 0 .nil := ⟨rfl, fun _ => none, ⟨rfl, .inl ⟨rfl, rfl, rfl⟩⟩, (fun _ e => by cases e), (fun _ _ e => by cases e), trivial⟩
theorem Hp.sub_anti {h hk h' : Hp} (x : h.le hk) : (h'.sub hk).le (h'.sub h) := Hp.le_sub (Hp.sub_le _ _) fun _ hj => Hp.none_le x (Hp.sub_out hj)
theorem lo_cnt (p : Lo) : p.cnt = cntE p.fo.els := by unfold cntE; rw [mk_els, Lo.fo_cnt]
theorem pass_lo {w : Nat} (hw : 1 ≤ w) {l p : Lo} (h : p.fo.els = pass w l.fo.els) : p.cnt ≤ l.cnt := by
  rw [lo_cnt, lo_cnt, h]; exact (pass_cnt hw _ _ (Nat.le_refl _)).1
theorem fold11 (w : Int) (l : Lo) (hc : l.cnt ≤ 200000) (A : Option Addr) (m c : Nat) (h : Hp) (hs : SAt h A m l) (hca : m ≤ c) :
    Fn Try.prog 11 #[iv w, .slice A m c] h fun v h' => h.le h' ∧ ∃ A' m' c' l', v = .tuple #[.slice A' m' c', iv (foldR w l.fo).1] ∧ UW (h'.sub h) A' m' c' l' ∧ l'.fo = (foldR w l.fo).2 := by
  have hm : m ≤ 200000 := by have := hs.1; have := l.len_cnt; omega
  refine Fn.intro (args := [iv w, .slice A m c]) mix16 Try.func11 rfl (by decide) Try.ntmps11 rfl (low11 rfl) rfl ?_
  conv => whnf
  refine .done (.mk _ (check17 l hc A m c h hs) ?_)
  rintro _ h1 ⟨l1, rfl⟩
  conv => whnf
  refine br_dec (fun u => ?_) (fun u => ?_)
  · conv => whnf
    refine .done ⟨l1, none, 0, 0, .nil, ?_, uw_nil _, ?_⟩
    · unfold foldR; rw [if_pos u]; rfl
    · unfold foldR; rw [if_pos u]; rfl
  have hck : checkF l.fo = 0 := Decidable.not_not.1 u
  have bad : w < 1 ∨ 16 < w → foldR w l.fo = (1, .nil) := fun q => by unfold foldR; rw [if_neg u, if_pos q]
  conv => whnf
  refine br_dec (fun u1 => ?_) (fun u1 => ?_)
  · conv => whnf
    refine .done ⟨l1, none, 0, 0, .nil, ?_, uw_nil _, ?_⟩
    · rw [bad (.inl u1)]; rfl
    · rw [bad (.inl u1)]; rfl
  conv => whnf
  refine br_dec (fun u2 => ?_) (fun u2 => ?_)
  · conv => whnf
    refine .done ⟨l1, none, 0, 0, .nil, ?_, uw_nil _, ?_⟩
    · rw [bad (.inr u2)]; rfl
    · rw [bad (.inr u2)]; rfl
  obtain ⟨W, rfl⟩ : ∃ W : Nat, w = W := ⟨w.toNat, by omega⟩
  have hW1 : 1 ≤ W := by omega
  have hW2 : W ≤ 16 := by omega
  obtain ⟨pg, pt, pf, pe⟩ := pass_check hW1 hck
  conv => whnf
  refine .done (.mk _ (fresh32 h1) ?_)
  rintro _ h2 ⟨nb, bf, bl, rfl, n2, l2, _, _, _, o2⟩
  have s2 := hs.mono (Hp.le_trans l1 o2)
  conv => whnf
  refine .done (.mk _ (named34 (cap := c) n2 s2 hc (by simp only [Nd.sz, Nd.fresh, List.length_nil]; omega)) ?_)
  rintro _ h3 ⟨M, ns, D, cD, rfl, E3, n3, num3, row3, f3, o3, z3⟩
  have hz3 : M.sz ≤ 400000 := by
    have : Nd.fresh.sz = 0 := rfl
    omega
  obtain ⟨_, i2, i3⟩ := n2.in1
  have t3 := (RowAt.nums row3).off' (bf := bf) (bl := bl) fun g e => ⟨fun q => i2 (by rw [← q]; exact f3 g e), fun q => i3 (by rw [← q]; exact f3 g e)⟩
  conv => whnf
  refine .done (.mk _ (fold33 n3 (s2.mono o3) hca t3 (row_capn row3) num3 hc hW1 hW2 (by omega)) ?_)
  rintro _ h4 ⟨M4, E, j, ec, G, gc, p, ns4, rfl, F⟩
  have hpc : p.cnt ≤ 200000 := Nat.le_trans (pass_lo hW1 F.els) hc
  have hpf : p.fo = mkF (pass W l.fo.els) := by rw [← F.els, mk_els]
  have l14 : h1.le h4 := Hp.le_trans o2 (Hp.le_trans o3 (Hp.le_trans F.off (Hp.off_le _ _ _)))
  have s4 := F.sat.mono (Hp.off_le _ _ _)
  conv => whnf
  refine .done (.mk _ (check17 p hpc E j ec h4 s4) ?_)
  rintro _ h5 ⟨l5, rfl⟩
  have l05 := Hp.le_trans l1 (Hp.le_trans l14 l5)
  conv => whnf
  refine br_dec (fun u3 => ?_) (fun u3 => ?_)
  · have u3' : checkF (mkF (pass W l.fo.els)) ≠ 0 := by rw [← hpf]; exact u3
    have hR : foldR W l.fo = (161, .nil) := by unfold foldR; rw [if_neg u, if_neg (by omega), Int.toNat_natCast, if_pos u3']
    rw [hpf, pe u3']
    conv => whnf
    refine .done ⟨l05, none, 0, 0, .nil, ?_, uw_nil _, ?_⟩
    · rw [hR]; rfl
    · rw [hR]; rfl
  · have u3' : ¬ checkF (mkF (pass W l.fo.els)) ≠ 0 := by rw [← hpf]; exact u3
    have hR : foldR W l.fo = (0, mkF (pass W l.fo.els)) := by unfold foldR; rw [if_neg u, if_neg (by omega), Int.toNat_natCast, if_neg u3']
    conv => whnf
    refine .done (.mk _ (own35 _ p (Nat.lt_succ_self _) hpc E j ec h5 (s4.mono l5)) ?_)
    rintro _ h6 ⟨l6, A', c', l', rfl, uw, hf⟩
    conv => whnf
    refine .done ⟨Hp.le_trans l05 l6, A', j, c', l', ?_, uw.mono (Hp.sub_anti l05), ?_⟩
    · rw [hR]; rfl
    · rw [hR, hf, hpf]
theorem fold12 (w : Int) (l : Lo) (hc : l.cnt ≤ 200000) (A : Option Addr) (m c : Nat) (h : Hp) (hs : SAt h A m l) (hca : m ≤ c) :
    Fn Try.prog 12 #[iv w, .slice A m c] h fun v h' => h.le h' ∧ ∃ A' m' c' l', v = .tuple #[.slice A' m' c', iv (foldR w l.fo).1] ∧ SAt h' A' m' l' ∧ l'.fo = (foldR w l.fo).2 := by
  refine Fn.intro (args := [iv w, .slice A m c]) mix16 Try.func12 rfl (by decide) Try.ntmps12 rfl (low12 rfl) rfl ?_
  conv => whnf
  refine .done (.mk _ (check18 l hc A m c h hs) ?_)
  rintro _ h1 ⟨rfl, rfl⟩
  conv => whnf
  refine br_dec (fun u => ?_) (fun u => ?_)
  · conv => whnf
    refine .done ⟨Hp.le_refl _, none, 0, 0, .nil, ?_, ⟨rfl, .inl rfl⟩, ?_⟩
    · unfold foldR; rw [if_pos u]; rfl
    · unfold foldR; rw [if_pos u]; rfl
  have hck : checkF l.fo = 0 := Decidable.not_not.1 u
  have bad : w < 1 ∨ 16 < w → foldR w l.fo = (1, .nil) := fun q => by unfold foldR; rw [if_neg u, if_pos q]
  conv => whnf
  refine br_dec (fun u1 => ?_) (fun u1 => ?_)
  · conv => whnf
    refine .done ⟨Hp.le_refl _, none, 0, 0, .nil, ?_, ⟨rfl, .inl rfl⟩, ?_⟩
    · rw [bad (.inl u1)]; rfl
    · rw [bad (.inl u1)]; rfl
  conv => whnf
  refine br_dec (fun u2 => ?_) (fun u2 => ?_)
  · conv => whnf
    refine .done ⟨Hp.le_refl _, none, 0, 0, .nil, ?_, ⟨rfl, .inl rfl⟩, ?_⟩
    · rw [bad (.inr u2)]; rfl
    · rw [bad (.inr u2)]; rfl
  obtain ⟨W, rfl⟩ : ∃ W : Nat, w = W := ⟨w.toNat, by omega⟩
  have hW1 : 1 ≤ W := by omega
  have hW2 : W ≤ 16 := by omega
  conv => whnf
  refine .done (.mk _ (pass37 hs hca hc hW1 hW2) ?_)
  rintro _ h4 ⟨E, j, ec, p, rfl, l4, s4, hp, _⟩
  have hpc : p.cnt ≤ 200000 := Nat.le_trans (pass_lo hW1 hp) hc
  have hpf : p.fo = mkF (pass W l.fo.els) := by rw [← hp, mk_els]
  conv => whnf
  refine .done (.mk _ (check18 p hpc E j ec h4 s4) ?_)
  rintro _ h5 ⟨rfl, rfl⟩
  conv => whnf
  refine br_dec (fun u3 => ?_) (fun u3 => ?_)
  · have u3' : checkF (mkF (pass W l.fo.els)) ≠ 0 := by rw [← hpf]; exact u3
    have hR : foldR W l.fo = (161, .nil) := by unfold foldR; rw [if_neg u, if_neg (by omega), Int.toNat_natCast, if_pos u3']
    conv => whnf
    refine .done ⟨l4, none, 0, 0, .nil, ?_, ⟨rfl, .inl rfl⟩, ?_⟩
    · rw [hR]; rfl
    · rw [hR]; rfl
  · have u3' : ¬ checkF (mkF (pass W l.fo.els)) ≠ 0 := by rw [← hpf]; exact u3
    have hR : foldR W l.fo = (0, mkF (pass W l.fo.els)) := by unfold foldR; rw [if_neg u, if_neg (by omega), Int.toNat_natCast, if_neg u3']
    conv => whnf
    refine .done ⟨l4, E, j, ec, p, ?_, s4, ?_⟩
    · rw [hR]; rfl
    · rw [hR, hpf]
end Go.Sx
namespace Go.Sx
open Go.Proofs
set_option maxRecDepth 100000
set_option maxHeartbeats 1000000
def lfL : List Rn → Lo
  | [] => .nil
  | r :: l => .cons (r.2 : Int) r.1 none 0 0 .nil (lfL l)
def lfE (l : List Rn) : List El := l.map fun r => ((r.2 : Int), r.1, Fo.nil)
theorem lfL_els : ∀ l : List Rn, (lfL l).fo.els = lfE l
  | [] => rfl
  | r :: l => by simp only [lfL, Lo.fo, Fo.els, lfL_els l]; rfl
theorem lfL_len : ∀ l : List Rn, (lfL l).len = l.length
  | [] => rfl
  | _ :: l => by simp only [lfL, Lo.len, lfL_len l, List.length_cons]
theorem lfL_cnt : ∀ l : List Rn, (lfL l).cnt = l.length
  | [] => rfl
  | _ :: l => by simp only [lfL, Lo.cnt, lfL_cnt l, List.length_cons]; omega
theorem lfL_bdw (h : Hp) : ∀ l : List Rn, Bdw SK h (lfL l)
  | [] => trivial
  | _ :: l => ⟨⟨rfl, .inl rfl⟩, lfL_bdw h l⟩
theorem lfL_snoc (r : Rn) : ∀ l : List Rn, (lfL (l ++ [r])).cl = (lfL l).cl ++ [lcells (r.2 : Int) r.1 none 0 0]
  | [] => rfl
  | x :: l => by simp only [List.cons_append, lfL, Lo.cl, lfL_snoc r l]
theorem runs_all {P : Int → Prop} : ∀ l : List Int, (∀ r ∈ runsR l, P r.1) ↔ (∀ x ∈ l, P x)
  | [] => by simp [runsR]
  | x :: l => by
    have ih := runs_all (P := P) l
    simp only [runsR]
    split
    · rename_i y k r hr
      rw [hr] at ih
      simp only [List.mem_cons, forall_eq_or_imp] at ih ⊢
      rw [← ih]
      split
      · rename_i e
        subst e
        simp
      · simp
    · rename_i hr
      rw [hr] at ih
      simp only [List.mem_cons, forall_eq_or_imp, List.not_mem_nil, false_implies, implies_true, and_true] at ih ⊢
      exact ⟨fun h => ⟨h, ih.1 trivial⟩, fun h => h.1⟩
def badN (x : Int) : Prop := x < 0 ∨ 32 ≤ x
instance (x : Int) : Decidable (badN x) := inferInstanceAs (Decidable (_ ∨ _))
/-- what compressing answers -/
def compR (l : List Int) : Int × List El := if 2048 < l.length then (2, []) else if ∃ x ∈ l, badN x then (100, []) else (0, comp (lfE (runsR l)))
theorem Cstep {k w : Nat} {l R : List El} (hw : 1 ≤ w) (hk : 20 * l.length + 17 < k + w) (hR : cmpF k w l = R) (hc : w ≤ 16 ∧ 2 * w ≤ l.length) :
    ∃ k', k = k' + 1 ∧ ((pass w l).length < l.length → cmpF k' 1 (pass w l) = R ∧ 20 * (pass w l).length + 17 < k' + 1) ∧ (¬ (pass w l).length < l.length → cmpF k' (w + 1) (pass w l) = R ∧ 20 * (pass w l).length + 17 < k' + (w + 1)) := by
  cases k with
  | zero => omega
  | succ k' =>
    have hp := (pass_cnt hw _ l (Nat.le_refl _)).2
    simp only [cmpF, if_pos hc] at hR
    refine ⟨k', rfl, fun h => ?_, fun h => ?_⟩
    · rw [if_pos h] at hR; exact ⟨hR, by omega⟩
    · rw [if_neg h] at hR; exact ⟨hR, by omega⟩
theorem Cend {k w : Nat} {l R : List El} (hR : cmpF k w l = R) (hc : ¬ (w ≤ 16 ∧ 2 * w ≤ l.length)) : l = R := by
  cases k with
  | zero => exact hR
  | succ k' => simp only [cmpF, if_neg hc] at hR; exact hR
/-- a compression under way -/
structure Cst (h2 : Hp) (nb bf bl : Nat) (R : List El) (h' : Hp) (A : Option Addr) (m c : Nat) (D : Option Addr) (cD : Nat) (l : Lo) (ns : List Nat) (M : Nd) (w k : Nat) : Prop where
  nm : NmAt h' nb bf bl M
  sat : SAt (h'.off bf bl) A m l
  ca : m ≤ c
  tab : Tab (h'.off bf bl) 1 D m ((nums ns).map fun z => [iv z])
  cd : m ≤ cD
  num : Num M ns l.fo.els
  cnt : l.cnt ≤ 2048
  w1 : 1 ≤ w
  w2 : w ≤ 17
  fu : 20 * l.fo.els.length + 17 < k + w
  eq : cmpF k w l.fo.els = R
  le : h2.le (h'.off bf bl)
  sz : M.sz + 2048 * k ≤ 100000000
theorem compress18 (l : List Int) (D : Option Addr) (n cap : Nat) (h : Hp) (hz : Tab h 1 D n (l.map fun z => [iv z])) :
    Fn Try.prog 18 #[.slice D n cap] h fun v h' => h.le h' ∧ ∃ A' m' c' l', v = .tuple #[.slice A' m' c', iv (compR l).1] ∧ UW (h'.sub h) A' m' c' l' ∧ l'.fo.els = (compR l).2 := by
  have hl : l.length = n := by simpa using hz.len
  refine Fn.intro (args := [.slice D n cap]) mix16 Try.func18 rfl (by decide) Try.ntmps18 rfl (low18 rfl) rfl ?_
  conv => whnf
  refine br_dec (fun u => ?_) (fun u => ?_)
  · conv => whnf
    have hR : compR l = (2, []) := by unfold compR; rw [if_pos (by omega)]
    refine .done ⟨Hp.le_refl h, none, 0, 0, .nil, ?_, uw_nil _, ?_⟩
    · rw [hR]; rfl
    · rw [hR]; rfl
  have hn : n ≤ 2048 := by omega
  conv => whnf
  refine .done (.mk _ (runs29 D n cap l h hz (by omega)) ?_)
  rintro _ h1 ⟨E1, m1, c1, rfl, hm1, rw1⟩
  have hrl := runsR_len l
  have tr := rw1.tab
  conv => whnf
  refine .mkS [] (Nat × Option Addr × Nat) [4, 15, 16, 17] (fun (i, E, ec) => [.v (.slice E i ec), .v (.slice E1 m1 c1), .v (iv m1), .v (iv i)]) (fun _ => [])
    (fun (i, E, ec) h' => h1.le h' ∧ i ≤ m1 ∧ RowAt h' 41 3 E i ec (lfL ((runsR l).take i)).cl.flatten ∧ (∀ g, E = some g → h1 g.block = none) ∧ ∀ r ∈ (runsR l).take i, ¬ badN r.1) (fun (i, _, _) => m1 - i) (0, none, 0) (fun _ => rfl)
    ⟨Hp.le_refl _, Nat.zero_le _, ⟨rfl, .inl ⟨rfl, rfl, rfl⟩⟩, (fun _ e => by cases e), (fun r hr => by simp at hr)⟩ rfl rfl rfl ?_
  rintro ⟨i, E, ec⟩ e h' ⟨hle, him, hrow, hf, hok⟩
  have hX := delA_none hle hf
  refine .abs 41 3 E i ec _ hrow (.done ?_)
  conv => whnf
  refine br_dec (fun u1 => ?_) (fun u1 => ?_)
  · have hi : i < (runsR l).length := by omega
    obtain ⟨r, hr⟩ : ∃ r, r = (runsR l)[i] := ⟨_, rfl⟩
    have hget : ((runsR l).map rcell)[i]? = some (rcell r) := by rw [List.getElem?_map, List.getElem?_eq_getElem hi, hr]; rfl
    have trX := tr.mono hX
    obtain ⟨g, hg⟩ := trX.ad (by omega)
    have bad : badN r.1 → compR l = (100, []) := fun q => by
      unfold compR
      rw [if_neg (by omega), if_pos]
      refine Decidable.byContradiction fun hno => ?_
      have := (runs_all (P := fun x => ¬ badN x) l).2 fun x hx hb => hno ⟨x, hx, hb⟩
      exact this r (by rw [hr]; exact List.getElem_mem _) q
    conv => whnf
    refine .mk g hg (by omega) (by omega) ?_
    conv => whnf
    refine .hp (rcell r) rfl (by rw [Int.toNat_natCast]; exact trX.row hg hget) ?_
    conv => whnf
    refine br_dec (fun u2 => ?_) (fun u2 => ?_)
    · conv => whnf
      refine .done ⟨Hp.le_trans rw1.le hX, none, 0, 0, .nil, ?_, uw_nil _, ?_⟩
      · rw [bad (.inl u2)]; rfl
      · rw [bad (.inl u2)]; rfl
    conv => whnf
    refine br_dec (fun u3 => ?_) (fun u3 => ?_)
    · conv => whnf
      refine .done ⟨Hp.le_trans rw1.le hX, none, 0, 0, .nil, ?_, uw_nil _, ?_⟩
      · rw [bad (.inr u3)]; rfl
      · rw [bad (.inr u3)]; rfl
    conv => whnf
    refine .done (.old 0 _ (lcells (r.2 : Int) r.1 none 0 0) rfl rfl (lcells_one _ _ _ _ _) (by simp [maxLen]; omega) (by omega) fun E2 ec2 hE2 => ?_)
    conv => whnf
    refine .ok (by omega) (by omega) ?_
    conv => whnf
    have htk : (runsR l).take (i + 1) = (runsR l).take i ++ [r] := by rw [take_succ' hi, hr]
    refine .pub 0 41 3 E2 (i + 1) ec2 _ rfl fun h4 l4 ro4 f4 => .done ⟨(i + 1, E2, ec2), rfl, rfl, ⟨Hp.le_trans hX l4, by omega, ?_, fun g e => Hp.none_le hX (f4 g e), fun q hq => ?_⟩, by show m1 - (i + 1) < m1 - i; omega⟩
    · rw [htk, lfL_snoc, List.flatten_append, List.flatten_singleton]; exact ro4
    · rw [htk] at hq
      rcases List.mem_append.1 hq with hq | hq
      · exact hok q hq
      · rw [List.mem_singleton.1 hq]; intro q; rcases q with q | q
        · exact u2 q
        · exact u3 q
  · have him' : i = (runsR l).length := by omega
    rw [him', List.take_length] at hrow hok
    have hR : compR l = (0, comp (lfE (runsR l))) := by
      unfold compR
      rw [if_neg (by omega), if_neg]
      rintro ⟨x, hx, hb⟩
      exact (runs_all (P := fun x => ¬ badN x) l).1 hok x hx hb
    conv => whnf
    refine .pub 0 41 3 E i ec _ rfl fun h2 l2 ro2 f2 => .done (.mk _ (fresh32 h2) ?_)
    rw [him', List.take_length] at ro2
    have l12 : h1.le h2 := Hp.le_trans hX l2
    have hs2 : SAt h2 E i (lfL (runsR l)) := by
      have := Tab.sat (l := lfL (runsR l)) (A := E) (n := i) (by rw [him']; exact RowAt.tab ro2 (lfL (runsR l)).cl_wid (by decide)) (lfL_bdw h2 _)
      exact this
    have hic : i ≤ ec := by rw [him']; exact row_capn ro2
    rintro _ h3 ⟨nb, bf, bl, rfl, n3, l3, _, _, _, o3⟩
    have hcn : (lfL (runsR l)).cnt ≤ 2048 := by rw [lfL_cnt]; omega
    have s3 := hs2.mono o3
    conv => whnf
    refine .done (.mk _ (named34 (cap := ec) n3 s3 (by omega) (by simp only [Nd.sz, Nd.fresh, List.length_nil]; omega)) ?_)
    rintro _ h4 ⟨M, ns, G, cG, rfl, E4, n4, num4, row4, f4, o4, z4⟩
    have z4 : M.sz ≤ 4096 := by
      have : Nd.fresh.sz = 0 := rfl
      omega
    obtain ⟨_, i2, i3⟩ := n3.in1
    have t4 := (RowAt.nums row4).off' (bf := bf) (bl := bl) fun g e => ⟨fun q => i2 (by rw [← q]; exact f4 g e), fun q => i3 (by rw [← q]; exact f4 g e)⟩
    have l24 : h2.le (h4.off bf bl) := Hp.le_trans o3 o4
    have hels := lfL_els (runsR l)
    have hlen : (lfL (runsR l)).fo.els.length ≤ 2048 := by rw [hels]; simp [lfE]; omega
    obtain ⟨R, hRR⟩ : ∃ R, R = comp (lfE (runsR l)) := ⟨_, rfl⟩
    have hcmp : cmpF (20 * (lfL (runsR l)).fo.els.length + 20) 1 (lfL (runsR l)).fo.els = R := by rw [hRR, hels]; rfl
    rw [← hRR] at hR
    conv => whnf
    refine .mkS [1] (Option Addr × Nat × Nat × Option Addr × Nat × Lo × List Nat × Nd × Nat × Nat) [7, 8, 9] (fun (_, _, _, _, _, _, _, _, w, _) => [.v (lptr nb), .p 0 0, .v (iv w)]) (fun (A, m, c, D, cD, _, _, _, _, _) => [.own [.v (.slice A m c), .v (.slice D m cD)] 60])
      (fun (A, m, c, D, cD, lo, ns, M, w, k) h' => Cst h2 nb bf bl R h' A m c D cD lo ns M w k) (fun (_, _, _, _, _, _, _, _, _, k) => k) (E, i, ec, G, cG, lfL (runsR l), ns, M, 1, 20 * (lfL (runsR l)).fo.els.length + 20) (fun _ => rfl)
      ⟨n4, s3.mono o4, hic, t4, row_capn row4, num4, hcn, Nat.le_refl _, by decide, by omega, hcmp, l24, by omega⟩ rfl rfl rfl ?_
    clear t4 n4 row4 f4 num4 s3 n3 hs2 ro2 f2 hrow hok hcmp hlen hels hcn i2 i3 z4 o4 o3 l24
    rintro ⟨A, m, c, D, cD, lo, ns, M, w, k⟩ e h' S
    have hml : lo.fo.els.length = m := by rw [fo_els_len]; exact S.sat.1.symm
    have hmc : m ≤ 2048 := by have := S.cnt; have := lo.len_cnt; have := S.sat.1; omega
    have w1 := S.w1
    have w2 := S.w2
    refine .done ?_
    conv => whnf
    refine br_dec (fun v1 => ?_) (fun v1 => ?_)
    · conv => whnf
      refine .ok (by omega) (by omega) ?_
      conv => whnf
      refine br_dec (fun v2 => ?_) (fun v2 => ?_)
      · obtain ⟨k', rfl, a1, a2⟩ := Cstep w1 S.fu S.eq ⟨by omega, by omega⟩
        have sz := S.sz
        conv => whnf
        refine .done (.mk _ (fold33 S.nm S.sat S.ca S.tab S.cd S.num (by have := S.cnt; omega) w1 (by omega) (by omega)) ?_)
        rintro _ h5 ⟨M5, E5, j5, ec5, G5, gc5, p5, ns5, rfl, F⟩
        have hp5 : p5.fo.els.length = j5 := by rw [fo_els_len]; exact F.sat.1.symm
        have hcn5 : p5.cnt ≤ 2048 := Nat.le_trans (pass_lo w1 F.els) S.cnt
        have hsz5 := F.sz
        have hle5 : h2.le (h5.off bf bl) := Hp.le_trans S.le F.off
        have hj5 : (pass w lo.fo.els).length = j5 := by rw [← F.els, hp5]
        conv => whnf
        refine br_dec (fun v3 => ?_) (fun v3 => ?_)
        · obtain ⟨b1, b2⟩ := a1 (by omega)
          conv => whnf
          refine .done ⟨(E5, j5, ec5, G5, gc5, p5, ns5, M5, 1, k'), rfl, rfl, ⟨F.nm, F.sat, F.ce, F.tab, F.cg, by rw [F.els]; exact F.num, hcn5, Nat.le_refl _, by decide, by rw [F.els]; exact b2, by rw [F.els]; exact b1, hle5, by omega⟩, Nat.lt_succ_self _⟩
        · obtain ⟨b1, b2⟩ := a2 (by omega)
          conv => whnf
          refine .ok (by omega) (by omega) ?_
          conv => whnf
          refine .done ⟨(E5, j5, ec5, G5, gc5, p5, ns5, M5, w + 1, k'), rfl, rfl, ⟨F.nm, F.sat, F.ce, F.tab, F.cg, by rw [F.els]; exact F.num, hcn5, by omega, by omega, by rw [F.els]; exact b2, by rw [F.els]; exact b1, hle5, by omega⟩, Nat.lt_succ_self _⟩
      · have hend := Cend S.eq (by omega)
        conv => whnf
        refine .done (.mk _ (own35 _ lo (Nat.lt_succ_self _) (by have := S.cnt; omega) A m c h' (S.sat.mono (Hp.off_le _ _ _))) ?_)
        rintro _ h6 ⟨l6, A', c', l', rfl, uw, hf⟩
        conv => whnf
        have l0 : h.le h' := Hp.le_trans rw1.le (Hp.le_trans l12 (Hp.le_trans S.le (Hp.off_le _ _ _)))
        refine .done ⟨Hp.le_trans l0 l6, A', m, c', l', ?_, uw.mono (Hp.sub_anti l0), ?_⟩
        · rw [hR]; rfl
        · rw [hR, hf, hend]
    · have hend := Cend S.eq (by omega)
      conv => whnf
      refine .done (.mk _ (own35 _ lo (Nat.lt_succ_self _) (by have := S.cnt; omega) A m c h' (S.sat.mono (Hp.off_le _ _ _))) ?_)
      rintro _ h6 ⟨l6, A', c', l', rfl, uw, hf⟩
      conv => whnf
      have l0 : h.le h' := Hp.le_trans rw1.le (Hp.le_trans l12 (Hp.le_trans S.le (Hp.off_le _ _ _)))
      refine .done ⟨Hp.le_trans l0 l6, A', m, c', l', ?_, uw.mono (Hp.sub_anti l0), ?_⟩
      · rw [hR]; rfl
      · rw [hR, hf, hend]
end Go.Sx
