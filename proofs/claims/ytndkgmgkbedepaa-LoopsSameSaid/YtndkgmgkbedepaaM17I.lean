/- Groups of a row compared; a fold's own names. Conditions: none. -/
import Derived.Test.YtndkgmgkbedepaaM17E
namespace Go.Sx
open Go.Proofs
set_option maxRecDepth 100000
theorem drop_take_succ {α : Type} {l : List α} {a k : Nat} (h : a + k < l.length) : (l.drop a).take (k + 1) = (l.drop a).take k ++ [l[a + k]] := by
  rw [take_succ' (by rw [List.length_drop]; omega), List.getElem_drop]
theorem same44 {h : Hp} {rb : Nat} {A D : Option Addr} {m c c' : Nat} {ns : List Nat} (hr : h rb = some (.cells [.slice A m c, .slice D m c'].toArray 60 (0, 0))) (ht : Tab h 1 D m ((nums ns).map fun z => [iv z])) (hm : m ≤ 1000000000) {a b w : Nat} (ha : a + w ≤ m) (hb : b + w ≤ m) :
    Fn Try.prog 44 #[lptr rb, iv a, iv b, iv w] h fun v h' => v = .bool (decide ((ns.drop a).take w = (ns.drop b).take w)) ∧ h' = h := by
  have hl : ns.length = m := by have := ht.len; simpa [nums] using this
  have hget : ∀ k (hk : k < m), ((nums ns).map fun z => [iv z])[k]? = some [iv (ns[k]'(by omega) : Int)] := fun k hk => by simp [nums, hl, hk]
  refine Fn.intro (args := [lptr rb, iv a, iv b, iv w]) mix16 Try.func44 rfl (by decide) Try.ntmps44 rfl (low44 rfl) rfl ?_
  conv => whnf
  refine .mk Nat [0, 1, 2, 10, 11] (fun k => [.v (lptr rb), .v (iv a), .v (iv b), .v (iv w), .v (iv k)]) (fun _ => []) (fun k h' => h' = h ∧ k ≤ w ∧ (ns.drop a).take k = (ns.drop b).take k) (fun k => w - k) 0 (fun _ => rfl) ⟨rfl, Nat.zero_le _, rfl⟩ rfl rfl ?_
  rintro k e h' ⟨rfl, hk, heq⟩
  conv => whnf
  refine br_dec (fun h2 => ?_) (fun h2 => ?_)
  · obtain ⟨g, hg⟩ := ht.ad (by omega)
    have e1 := drop_take_succ (l := ns) (a := a) (k := k) (by omega)
    have e2 := drop_take_succ (l := ns) (a := b) (k := k) (by omega)
    conv => whnf
    refine .hp (.slice D m c') (lit_cell hr rfl) ?_
    conv => whnf
    refine .ok (by omega) (by omega) ?_
    conv => whnf
    refine .mk g hg (by omega) (by omega) ?_
    conv => whnf
    refine .hp (iv (ns[a + k]'(by omega) : Int)) (by rw [show ((a : Int) + k).toNat = a + k by omega]; exact ht.one hg (hget (a + k) (by omega)) rfl) ?_
    conv => whnf
    refine .hp (.slice D m c') (lit_cell hr rfl) ?_
    conv => whnf
    refine .ok (by omega) (by omega) ?_
    conv => whnf
    refine .mk g hg (by omega) (by omega) ?_
    conv => whnf
    refine .hp (iv (ns[b + k]'(by omega) : Int)) (by rw [show ((b : Int) + k).toNat = b + k by omega]; exact ht.one hg (hget (b + k) (by omega)) rfl) ?_
    conv => whnf
    refine br_dec (fun h3 => ?_) (fun h3 => ?_)
    · conv => whnf
      refine .done ⟨?_, rfl⟩
      rw [decide_eq_false]
      · rfl
      · intro q
        apply h3
        have q2 := congrArg (fun l => l.take (k + 1)) q
        simp only [List.take_take, show min (k + 1) w = k + 1 by omega] at q2
        rw [e1, e2, heq] at q2
        have q3 := List.append_cancel_left q2
        injection q3 with q3
        rw [q3]
    · conv => whnf
      refine .ok (by omega) (by omega) ?_
      conv => whnf
      refine ⟨k + 1, rfl, rfl, ⟨rfl, by omega, ?_⟩, by omega⟩
      rw [e1, e2, heq]
      have : (ns[a + k]'(by omega) : Int) = (ns[b + k]'(by omega) : Int) := Decidable.not_not.1 h3
      rw [show ns[a + k]'(by omega) = ns[b + k]'(by omega) by omega]
  · obtain rfl : k = w := by omega
    conv => whnf
    refine .done ⟨?_, rfl⟩
    rw [decide_eq_true heq]; rfl
theorem map_inj_on {α β : Type} {f : α → β} : ∀ {l r : List α}, (∀ x ∈ l, ∀ y ∈ r, f x = f y → x = y) → l.map f = r.map f → l = r
  | [], [], _, _ => rfl
  | [], _ :: _, _, h => by cases h
  | _ :: _, [], _, h => by cases h
  | x :: l, y :: r, hf, h => by
    simp only [List.map_cons, List.cons.injEq] at h
    rw [hf x (List.mem_cons_self ..) y (List.mem_cons_self ..) h.1, map_inj_on (fun a ha b hb => hf a (List.mem_cons_of_mem _ ha) b (List.mem_cons_of_mem _ hb)) h.2]
theorem Num.grp {N : Nd} (o : N.Ok) {ns : List Nat} {es : List El} (x : Num N ns es) (a b w : Nat) : ((ns.drop a).take w = (ns.drop b).take w) ↔ ((es.drop a).take w = (es.drop b).take w) := by
  rw [← x.eq, ← List.map_drop, ← List.map_drop, ← List.map_take, ← List.map_take]
  refine ⟨fun h => by rw [h], fun h => map_inj_on (fun p hp q hq => ?_) h⟩
  have h1 := x.le p (List.mem_of_mem_drop (List.mem_of_mem_take hp))
  have h2 := x.le q (List.mem_of_mem_drop (List.mem_of_mem_take hq))
  exact o.ff p q h1.1 h2.1 h1.2 h2.2
theorem fresh32 (h : Hp) : Fn Try.prog 32 #[] h fun v h' => ∃ nb bf bl, v = lptr nb ∧ NmAt h' nb bf bl Nd.fresh ∧ h.le h' ∧ h nb = none ∧ h bf = none ∧ h bl = none ∧ h.le (h'.off bf bl) := by
  refine Fn.intro (args := []) mix16 Try.func32 rfl (by decide) Try.ntmps32 rfl (low32 rfl) rfl ?_
  conv => whnf
  refine .mk fun b1 hb1 => ?_
  conv => whnf
  refine .mk fun b2 hb2 => ?_
  conv => whnf
  refine .mk fun b3 hb3 => ?_
  conv => whnf
  have hne : b1 ≠ b2 := fun e => by rw [← e, Hp.put_same] at hb2; cases hb2
  obtain ⟨n3, hb3'⟩ : b3 ≠ b2 ∧ h b3 = none ∧ b3 ≠ b1 := by
    by_cases e : b3 = b2
    · rw [e, Hp.put_same] at hb3; cases hb3
    · rw [Hp.put_ne _ _ e] at hb3
      by_cases e' : b3 = b1
      · rw [e', Hp.put_same] at hb3; cases hb3
      · rw [Hp.put_ne _ _ e'] at hb3; exact ⟨e, hb3, e'⟩
  have hb2' : h b2 = none := by rwa [Hp.put_ne _ _ (Ne.symm hne)] at hb2
  have l1 : h.le (h.put b1 (.map #[] 0)) := Hp.le_put hb1
  have l2 := Hp.le_trans l1 (Hp.le_put (o := .map #[] 0) hb2)
  have l3 := Hp.le_trans l2 (Hp.le_put (o := .cells [.map (some b1), .map (some b2)].toArray 82 (0, 0)) hb3)
  refine .done ⟨b3, b1, b2, rfl, ⟨Hp.put_same _ _ _, ⟨[], 0, ⟨?_, fun x hx => by cases hx⟩, ⟨rfl, fun i e x he => by simp at he⟩⟩, ⟨[], 0, ⟨?_, fun x hx => by cases hx⟩, ⟨rfl, fun i e x he => by simp at he⟩⟩, hne, Nd.fresh_ok⟩, l3, hb3'.1, hb1, hb2', fun j o e => ?_⟩
  · rw [Hp.put_ne _ _ (Ne.symm hb3'.2), Hp.put_ne _ _ hne, Hp.put_same]; rfl
  · rw [Hp.put_ne _ _ (Ne.symm n3), Hp.put_same]; rfl
  · rw [Hp.off_of (fun q => by rw [q, hb1] at e; cases e) (fun q => by rw [q, hb2'] at e; cases e)]
    exact l3 j o e
end Go.Sx
namespace Go.Sx
open Go.Proofs
set_option maxRecDepth 100000
theorem updL_self : ∀ (slots : List Nat) (e : Env), updL e slots (slots.map e) = e
  | [], e => rfl
  | d :: ds, e => by
    have h1 : upd e d (e d) = e := by
      funext t
      unfold upd
      cases hb : Nat.beq t d with
      | true => rw [Nat.eq_of_beq_eq_true hb]; rfl
      | false => rfl
    rw [List.map_cons, updL, h1]
    exact updL_self ds e
/-- what a fold reads -/
structure Fold0 (H : Hp) (rb : Nat) (A D : Option Addr) (m c c' : Nat) (l : Lo) (ns : List Nat) : Prop where
  cell : H rb = some (.cells [.slice A m c, .slice D m c'].toArray 60 (0, 0))
  sat : SAt H A m l
  tab : Tab H 1 D m ((nums ns).map fun z => [iv z])
  ca : m ≤ c
  cd : m ≤ c'
  le : m ≤ 200000
theorem Fold0.mono {H H' : Hp} {rb : Nat} {A D : Option Addr} {m c c' : Nat} {l : Lo} {ns : List Nat} (x : Fold0 H rb A D m c c' l ns) (y : H.le H') : Fold0 H' rb A D m c c' l ns :=
  ⟨y _ _ x.cell, x.sat.mono y, x.tab.mono y, x.ca, x.cd, x.le⟩
theorem Fold0.len {H : Hp} {rb : Nat} {A D : Option Addr} {m c c' : Nat} {l : Lo} {ns : List Nat} (x : Fold0 H rb A D m c c' l ns) : ns.length = m ∧ l.fo.els.length = m := by
  refine ⟨?_, ?_⟩
  · have := x.tab.len; simpa [nums] using this
  · rw [fo_els_len]; exact x.sat.1.symm
theorem Fold0.num {H : Hp} {rb : Nat} {A D : Option Addr} {m c c' : Nat} {l : Lo} {ns : List Nat} (x : Fold0 H rb A D m c c' l ns) {i : Nat} (hi : i < m) : ((nums ns).map fun z => [iv z])[i]? = some [iv ((ns[i]'(by rw [x.len.1]; exact hi) : Nat) : Int)] := by
  have := x.len.1
  simp [nums, this, hi]
noncomputable def irT33 : IR := (IR.seq (IR.seq (IR.reg ir33_r8) (IR.cond (Arg.t 41) (IR.seq (IR.odd ir33_r9) (IR.seq (IR.odd ir33_r10) (IR.seq (IR.reg ir33_r11) (IR.exit 1)))) IR.skip)) (IR.seq (IR.reg ir33_r12) (IR.seq (IR.seq (IR.reg ir33_r13) (IR.block 4 (IR.loop ir33_l3))) (IR.seq (IR.odd ir33_r18) (IR.seq (IR.odd ir33_r19) (IR.reg ir33_r20))))))
theorem l1_eq33 : ir33_l1 = .seq (.seq (.reg ir33_r4) (.cond (.t 17) .skip (.exit 0))) (.block 1 (.seq (.reg ir33_r5) (.seq (.block 2 (.loop ir33_l2)) irT33))) := rfl
abbrev Lf (rb : Nat) (E : Option Addr) (j ec : Nat) (G : Option Addr) (gc : Nat) (re rg : List Value) : List LE :=
  [.pub rb, .own [.v (.slice none 0 0), .v (.slice none 0 0)] 60, .own [.v (.slice E j ec), .v (.slice G j gc)] 60, .row 41 3 E j ec re, .row 3 1 G j gc rg]
theorem stepW (c0 : IR) (Q : Post) (e : Env) {H : Hp} {rb nb : Nat} {A D : Option Addr} {m c c' : Nat} {l : Lo} {ns : List Nat} (x : Fold0 H rb A D m c c' l ns) {N : Nd} (ok : N.Ok) (hnum : Num N ns l.fo.els) {w : Nat} (hw : 1 ≤ w) (hw2 : w ≤ 16) {i : Nat} (hi : i < m)
    (E : Option Addr) (j ec : Nat) (G : Option Addr) (gc : Nat) (re rg : List Value) (he : [0, 2, 4, 6, 7, 8].map e = [.v (lptr nb), .v (iv w), .p 0 0, .p 1 0, .p 2 0, .v (iv i)])
    (hQ : ∀ e k, IsRep w (l.fo.els.drop i) k → k ≤ m → [0, 2, 4, 6, 7, 8, 9].map e = [.v (lptr nb), .v (iv w), .p 0 0, .p 1 0, .p 2 0, .v (iv i), .v (iv k)] → wpIR Try.prog 111 c0 Q e (Lf rb E j ec G gc re rg) H) :
    wpIR Try.prog 111 (.seq (.reg ir33_r5) (.seq (.block 2 (.loop ir33_l2)) c0)) Q e (Lf rb E j ec G gc re rg) H := by
  have hself := updL_self [0, 2, 4, 6, 7, 8] e
  rw [he] at hself
  rw [← hself]
  have hml := x.le
  obtain ⟨hnl, hel⟩ := x.len
  conv => whnf
  refine .mk Nat [0, 2, 4, 6, 7, 8, 9] (fun k => [.v (lptr nb), .v (iv w), .p 0 0, .p 1 0, .p 2 0, .v (iv i), .v (iv k)]) (fun _ => Lf rb E j ec G gc re rg) (fun k h' => h' = H ∧ 1 ≤ k ∧ k ≤ m ∧ ∀ q, 1 ≤ q → q < k → GrpOk w (l.fo.els.drop i) q) (fun k => m - k) 1 (fun _ => rfl) ⟨rfl, Nat.le_refl _, by omega, fun q h1 h2 => by omega⟩ rfl rfl ?_
  rintro k e h' ⟨rfl, hk1, hkm, hg⟩
  have hb1 : (k + 1) * w ≤ 200001 * 16 := Nat.mul_le_mul (by omega) hw2
  have hb2 : k * w ≤ 200001 * 16 := Nat.mul_le_mul (by omega) hw2
  have e1 : ((k : Int) + 1) * w = (((k + 1) * w : Nat) : Int) := by push_cast; rfl
  have e2 : (k : Int) * w = ((k * w : Nat) : Int) := by push_cast; rfl
  have hkk : k ≤ k * w := Nat.le_mul_of_pos_right k hw
  have hks : (k + 1) * w = k * w + w := Nat.succ_mul k w
  conv => whnf
  refine .ok (by omega) (by omega) ?_
  conv => whnf
  refine .ok (by omega) (by omega) ?_
  conv => whnf
  refine .ok (by omega) (by omega) ?_
  conv => whnf
  refine .hp (.slice A m c) (lit_cell x.cell rfl) ?_
  conv => whnf
  refine br_dec (fun u => ?_) (fun u => ?_)
  · have hroom : i + (k + 1) * w ≤ m := by omega
    have hs := same44 (w := w) x.cell x.tab (by omega) (a := i) (b := i + k * w) (by omega) (by omega)
    have hgrp : GrpOk w (l.fo.els.drop i) k ↔ (ns.drop i).take w = (ns.drop (i + k * w)).take w := by
      rw [hnum.grp ok]
      unfold GrpOk
      rw [List.length_drop, List.drop_drop]
      exact ⟨fun h => h.2.symm, fun h => ⟨by omega, h.symm⟩⟩
    conv => whnf
    refine .ok (by omega) (by omega) ?_
    conv => whnf
    refine .ok (by omega) (by omega) ?_
    conv => whnf
    rw [e2, ← Int.natCast_add]
    refine .done (.mk _ hs ?_)
    rintro _ _ ⟨rfl, rfl⟩
    conv => whnf
    refine br_dec (fun v => ?_) (fun v => ?_)
    · conv => whnf
      refine .ok (by omega) (by omega) ?_
      conv => whnf
      refine ⟨k + 1, rfl, rfl, ⟨rfl, by omega, by omega, fun q h1 h2 => ?_⟩, by omega⟩
      by_cases hq : q = k
      · subst hq; exact hgrp.2 v
      · exact hg q h1 (by omega)
    · conv => whnf
      exact hQ _ k ⟨hk1, hg, fun h => v (hgrp.1 h)⟩ hkm rfl
  · conv => whnf
    refine hQ _ k ⟨hk1, hg, fun h => ?_⟩ hkm rfl
    have := h.1
    rw [List.length_drop] at this
    omega
end Go.Sx
namespace Go.Sx
open Go.Proofs
set_option maxRecDepth 100000
set_option maxHeartbeats 1000000
theorem stepT (Q : Post) (e : Env) {H : Hp} {rb nb bf bl : Nat} {A D : Option Addr} {m c c' : Nat} {l : Lo} {ns : List Nat} {H0 : Hp} (x : Fold0 H0 rb A D m c c' l ns) (hH : H0.le (H.off bf bl)) {M : Nd} (hM : NmAt H nb bf bl M) (hnum : Num M ns l.fo.els) {w : Nat} (hw : 1 ≤ w) (hw2 : w ≤ 16) {i : Nat} (hi : i < m) {k : Nat}
    (hk : IsRep w (l.fo.els.drop i) k) (hkm : k ≤ m) (hsz : M.sz + 20 ≤ 4000000000)
    (E : Option Addr) (j ec : Nat) (G : Option Addr) (gc : Nat) (re rg : List Value) (hj : j ≤ 200000) (he : [0, 2, 4, 6, 7, 8, 9].map e = [.v (lptr nb), .v (iv w), .p 0 0, .p 1 0, .p 2 0, .v (iv i), .v (iv k)])
    (hQ1 : k = 1 → ∀ e' E2 ec2 G2 gc2 X t n B m' cb b r, l.dr i = .cons t n B m' cb b r → SAt H0 B m' b → [0, 2, 4, 6, 7, 8].map e' = [.v (lptr nb), .v (iv w), .p 0 0, .p 1 0, .p 2 0, .v (iv ((i + 1 : Nat) : Int))] →
      Q (.exit 1) e' (Lf rb E2 (j + 1) ec2 G2 gc2 (re ++ lcells t n B m' cb) (rg ++ [iv ((ns[i]'(by rw [x.len.1]; exact hi) : Nat) : Int)]) ++ X) H)
    (hQ2 : 2 ≤ k → ∀ e' E2 ec2 G2 gc2 X B cb M' r H', SAt H0 B w ((l.dr i).tk w) → M.Ext M' → NmAt H' nb bf bl M' → H'.off bf bl = H.off bf bl → M'.FSq r = ((k : Int), 0, mkF ((l.fo.els.drop i).take w)) → 1 ≤ r → r ≤ M'.fs.length → M'.sz ≤ M.sz + w + 1 →
      [0, 2, 4, 6, 7, 8].map e' = [.v (lptr nb), .v (iv w), .p 0 0, .p 1 0, .p 2 0, .v (iv ((i + k * w : Nat) : Int))] →
      Q .normal e' (Lf rb E2 (j + 1) ec2 G2 gc2 (re ++ lcells k 0 B w cb) (rg ++ [iv (r : Int)]) ++ X) H') :
    wpIR Try.prog 111 irT33 Q e (Lf rb E j ec G gc re rg) H := by
  have hself := updL_self [0, 2, 4, 6, 7, 8, 9] e
  rw [he] at hself
  rw [← hself]
  have hml := x.le
  obtain ⟨hnl, hel⟩ := x.len
  have xH := x.mono (Hp.le_trans hH (Hp.off_le _ _ _))
  obtain ⟨g, hg⟩ := xH.tab.ad (by omega)
  have ht := tl_part x.sat (Nat.le_of_lt hi)
  conv => whnf
  refine br_dec (fun u => ?_) (fun u => ?_)
  · have hk1 : k = 1 := by omega
    cases hr : l.dr i with
    | nil =>
      rw [hr] at ht
      have := ht.fin; omega
    | cons t n B m' cb b r =>
      rw [hr] at ht
      obtain ⟨gA, hA, _, hcc, hb, _⟩ := ht.open
      have hcc : ∀ q v, (lcells t n B m' cb)[q]? = some v → H.cell? ((gA.add (i * 3)).add q) = some v := fun q v hv => Hp.cell_le (Hp.le_trans hH (Hp.off_le _ _ _)) (hcc q v hv)
      conv => whnf
      refine .hp (.slice A m c) (lit_cell xH.cell rfl) ?_
      conv => whnf
      refine .mk gA hA (by omega) (by omega) ?_
      conv => whnf
      refine .hp (lcells t n B m' cb) rfl (by rw [Int.toNat_natCast]; exact hcc) ?_
      conv => whnf
      refine .old 3 _ (lcells t n B m' cb) rfl rfl (lcells_one _ _ _ _ _) (by simp [maxLen]; omega) (by omega) fun E2 ec2 hE2 => ?_
      conv => whnf
      refine .hp (.slice D m c') (lit_cell xH.cell rfl) ?_
      conv => whnf
      refine .mk g hg (by omega) (by omega) ?_
      conv => whnf
      refine .hp (iv ((ns[i]'(by omega) : Nat) : Int)) (by rw [Int.toNat_natCast]; exact xH.tab.one hg (x.num hi) rfl) ?_
      conv => whnf
      refine .old 4 _ [iv ((ns[i]'(by omega) : Nat) : Int)] rfl rfl (numsv_one [((ns[i]'(by omega) : Nat) : Int)]) (by simp [maxLen]; omega) (by omega) fun G2 gc2 hG2 => ?_
      conv => whnf
      refine .ok (by omega) (by omega) ?_
      conv => whnf
      exact hQ1 hk1 _ E2 ec2 G2 gc2 _ t n B m' cb b r hr hb rfl
  · have hk2 : 2 ≤ k := by have := hk.pos; omega
    have hroom := hk.room hk2
    rw [List.length_drop] at hroom
    have hkw : 1 * w ≤ k * w := Nat.mul_le_mul_right w (by omega)
    have hb2 : k * w ≤ 200001 * 16 := Nat.mul_le_mul (by omega) hw2
    have ekw : (k : Int) * w = ((k * w : Nat) : Int) := by push_cast; rfl
    have hcd := x.cd
    have hca := x.ca
    conv => whnf
    refine .hp (.slice D m c') (lit_cell xH.cell rfl) ?_
    conv => whnf
    refine .ok (by omega) (by omega) ?_
    conv => whnf
    refine .mk i (i + w) rfl (by push_cast; rfl) (Nat.le_add_right _ _) (by omega) fun B hB1 hB2 => ?_
    have tB : Tab H 1 B w ((((nums ns).map fun z => [iv z]).drop i).take w) := (xH.tab.drop (k := i) (B := B) (fun q => hB1 (by omega)) (by omega)).take (by omega)
    have hBn : ∀ q (hq : q < w), ((((nums ns).map fun z => [iv z]).drop i).take w)[q]? = some [iv ((ns[i + q]'(by omega) : Nat) : Int)] := fun q hq => by
      rw [List.getElem?_take, if_pos hq, List.getElem?_drop]; exact x.num (by omega)
    obtain ⟨W, hW⟩ : ∃ W, W = i + w - i := ⟨_, rfl⟩
    have hWw : W = w := by omega
    rw [← hW]
    conv => whnf
    refine .mk (Nat × Nat × Nd) [0, 2, 4, 6, 7, 8, 9, 10, 70, 71, 72] (fun (q, b, _) => [.v (lptr nb), .v (iv w), .p 0 0, .p 1 0, .p 2 0, .v (iv i), .v (iv k), .v (iv b), .v (.slice B W (c' - i)), .v (iv W), .v (iv q)]) (fun _ => Lf rb E j ec G gc re rg)
      (fun (q, b, M') H' => NmAt H' nb bf bl M' ∧ H'.off bf bl = H.off bf bl ∧ M.Ext M' ∧ b ≤ M'.ls.length ∧ q ≤ w ∧ M'.LS b = (l.fo.els.drop i).take q ∧ M'.sz ≤ M.sz + q) (fun (q, _, _) => W - q) (0, 0, M) (fun (_, _, _) => rfl)
      ⟨hM, rfl, Nd.Ext.refl M, Nat.zero_le _, Nat.zero_le _, by rw [hM.ok.l0]; rfl, Nat.le_refl _⟩ rfl rfl ?_
    rintro ⟨q, b, M'⟩ e H' ⟨hM', hoff, hE, hb, hq, hL, hz⟩
    have hH' : H0.le H' := Hp.le_trans (by rw [hoff]; exact hH) (Hp.off_le H' bf bl)
    have xH' := x.mono hH'
    conv => whnf
    refine br_dec (fun v => ?_) (fun v => ?_)
    · have hqw : q < w := by omega
      obtain ⟨gB, hgB⟩ := tB.ad (by omega)
      have tB' : Tab H' 1 B w ((((nums ns).map fun z => [iv z]).drop i).take w) := (xH'.tab.drop (k := i) (B := B) (fun q => hB1 (by omega)) (by omega)).take (by omega)
      have hin := (hnum.ext hE).le (ns[i + q]'(by omega)) (List.getElem_mem _)
      conv => whnf
      refine .mk gB hgB (by omega) (by omega) ?_
      conv => whnf
      refine .hp (iv ((ns[i + q]'(by omega) : Nat) : Int)) (by rw [Int.toNat_natCast]; exact tB'.one hgB (hBn q hqw) rfl) ?_
      conv => whnf
      refine .done (.mk _ (link45 hM' (a := b) (b := ns[i + q]'(by omega)) hb hin.1 hin.2 (by omega)) ?_)
      rintro _ h4 ⟨M4, r4, rfl, E4, hM4, hL4, h42, hz4, ho4⟩
      conv => whnf
      refine .ok (by omega) (by omega) ?_
      conv => whnf
      refine ⟨(q + 1, r4, M4), rfl, rfl, ⟨hM4, by rw [ho4, hoff], hE.trans E4, h42, hqw, ?_, by omega⟩, by show W - (q + 1) < W - q; omega⟩
      rw [hL4, hL, drop_take_succ (by omega)]
      congr 2
      have e9 := (hnum.ext hE).eq
      have : l.fo.els[i + q]'(by omega) = (ns.map M'.FSq)[i + q]'(by simp; omega) := by congr 1; exact e9.symm
      rw [this, List.getElem_map]
    · have hqw : q = w := by omega
      subst hqw
      have hz := hz
      conv => whnf
      refine .hp (.slice A m c) (lit_cell xH'.cell rfl) ?_
      conv => whnf
      refine .ok (by omega) (by omega) ?_
      conv => whnf
      refine .mk i (i + q) rfl (by push_cast; rfl) (Nat.le_add_right _ _) (by omega) fun B2 hB21 hB22 => ?_
      rw [← hW, hWw]
      conv => whnf
      refine .old 3 _ (lcells k 0 B2 q (c - i)) rfl rfl (lcells_one _ _ _ _ _) (by simp [maxLen]; omega) (by omega) fun E2 ec2 hE2 => ?_
      conv => whnf
      refine .mk _ (face46 hM' (t := (k : Int)) (n := 0) (b := b) hb (by omega)) ?_
      rintro _ h4 ⟨M4, r4, rfl, E4, hM4, hF4, h41, h42, hz4, ho4⟩
      conv => whnf
      refine .old 4 _ [iv (r4 : Int)] rfl rfl (numsv_one [(r4 : Int)]) (by simp [maxLen]; omega) (by omega) fun G2 gc2 hG2 => ?_
      conv => whnf
      refine .ok (by omega) (by omega) ?_
      conv => whnf
      refine .ok (by omega) (by omega) ?_
      conv => whnf
      exact hQ2 hk2 _ E2 ec2 G2 gc2 _ B2 (c - i) M4 r4 h4 (sat_part x.sat (by omega) fun _ => hB21 (by omega)) (hE.trans E4) hM4 (by rw [ho4, hoff]) (by rw [hF4, hL]) h41 h42 (by omega) rfl
end Go.Sx
namespace Go.Sx
open Go.Proofs
set_option maxRecDepth 100000
theorem stepHd (c0 : IR) (Q : Post) (e : Env) {H : Hp} {rb nb : Nat} {A D : Option Addr} {m c c' : Nat} {l : Lo} {ns : List Nat} (x : Fold0 H rb A D m c c' l ns) {w i : Nat}
    (E : Option Addr) (j ec : Nat) (G : Option Addr) (gc : Nat) (re rg : List Value) (he : [0, 2, 4, 6, 7, 8].map e = [.v (lptr nb), .v (iv w), .p 0 0, .p 1 0, .p 2 0, .v (iv i)])
    (h1 : i < m → ∀ e, [0, 2, 4, 6, 7, 8].map e = [.v (lptr nb), .v (iv w), .p 0 0, .p 1 0, .p 2 0, .v (iv i)] → wpIR Try.prog 111 c0 Q e (Lf rb E j ec G gc re rg) H)
    (h2 : m ≤ i → ∀ e, [0, 2, 4, 6, 7, 8].map e = [.v (lptr nb), .v (iv w), .p 0 0, .p 1 0, .p 2 0, .v (iv i)] → Q (.exit 0) e (Lf rb E j ec G gc re rg) H) :
    wpIR Try.prog 111 (.seq (.seq (.reg ir33_r4) (.cond (.t 17) .skip (.exit 0))) c0) Q e (Lf rb E j ec G gc re rg) H := by
  have hself := updL_self [0, 2, 4, 6, 7, 8] e
  rw [he] at hself
  rw [← hself]
  conv => whnf
  refine .hp (.slice A m c) (lit_cell x.cell rfl) ?_
  conv => whnf
  refine br_dec (fun u => ?_) (fun u => ?_)
  · conv => whnf
    exact h1 (by omega) _ rfl
  · conv => whnf
    exact h2 (by omega) _ rfl
theorem RowAt.off {h : Hp} {bf bl ety size n cap : Nat} {A : Option Addr} {xs : List Value} (x : RowAt h ety size A n cap xs) (hf : ∀ g, A = some g → g.block ≠ bf ∧ g.block ≠ bl) : RowAt (h.off bf bl) ety size A n cap xs := by
  obtain ⟨h1, h2⟩ := x
  refine ⟨h1, h2.imp id fun ⟨g, cur, e1, e2, e3⟩ => ⟨g, cur, e1, ?_, e3⟩⟩
  obtain ⟨q1, q2⟩ := hf _ e1
  rw [Hp.off_of q1 q2]; exact e2
theorem Tab.off' {h : Hp} {bf bl size n : Nat} {A : Option Addr} {rows : List (List Value)} (x : Tab h size A n rows) (hf : ∀ g, A = some g → g.block ≠ bf ∧ g.block ≠ bl) : Tab (h.off bf bl) size A n rows :=
  x.at_ fun g e => by obtain ⟨q1, q2⟩ := hf g e; rw [Hp.off_of q1 q2]
theorem NmAt.in1 {h : Hp} {nb bf bl : Nat} {N : Nd} (x : NmAt h nb bf bl N) : h nb ≠ none ∧ h bf ≠ none ∧ h bl ≠ none := by
  obtain ⟨_, _, hf, _⟩ := x.f
  obtain ⟨_, _, hl, _⟩ := x.l
  exact ⟨by rw [x.cell]; simp, by rw [hf.at_]; simp, by rw [hl.at_]; simp⟩
theorem NmAt.old {h1 H : Hp} {nb bf bl : Nat} {M : Nd} (x : NmAt H nb bf bl M) (y : (h1.off bf bl).le (H.off bf bl)) {g : Nat} (e : H g = none) : h1 g = none := by
  obtain ⟨_, q1, q2⟩ := x.in1
  have n1 : g ≠ bf := fun q => q1 (by rw [← q]; exact e)
  have n2 : g ≠ bl := fun q => q2 (by rw [← q]; exact e)
  have := le_none y (off_none e)
  rwa [Hp.off_of n1 n2] at this
theorem Lo.snoc_els (t n : Int) (B : Option Addr) (m c : Nat) (b p : Lo) : (p.snoc t n B m c b).fo.els = p.fo.els ++ [(t, n, b.fo)] := by
  have := Lo.snoc_fo t n B m c b .nil p
  rw [Fo.app_nil] at this
  rw [this, els_app]
  rfl
theorem Lo.snoc_bdw {K : BK} {h : Hp} (t n : Int) (B : Option Addr) (m c : Nat) (b : Lo) (hb : K h B m c b) : ∀ {p : Lo}, Bdw K h p → Bdw K h (p.snoc t n B m c b)
  | .nil, _ => ⟨hb, trivial⟩
  | .cons _ _ _ _ _ _ _, ⟨x, y⟩ => ⟨x, Lo.snoc_bdw t n B m c b hb y⟩
/-- a fold under way -/
structure Fst (h h1 : Hp) (nb bf bl : Nat) (N : Nd) (es : List El) (m w : Nat) (h' : Hp) (i : Nat) (E : Option Addr) (ec : Nat) (G : Option Addr) (gc j : Nat) (p : Lo) (ns : List Nat) (M : Nd) : Prop where
  nm : NmAt h' nb bf bl M
  ext : N.Ext M
  im : i ≤ m
  out : p.fo.els ++ pass w (es.drop i) = pass w es
  len : p.len = j
  ji : j ≤ i
  rowE : RowAt h' 41 3 E j ec p.cl.flatten
  rowG : RowAt h' 3 1 G j gc ((nums ns).map iv)
  num : Num M ns p.fo.els
  bds : Bdw SK (h1.off bf bl) p
  fE : ∀ g, E = some g → h1 g.block = none
  fG : ∀ g, G = some g → h1 g.block = none
  dis : ∀ g g', E = some g → G = some g' → g.block ≠ g'.block
  off : (h1.off bf bl).le (h'.off bf bl)
  sz : M.sz ≤ N.sz + i
theorem row_capn {h : Hp} {ety size n cap : Nat} {A : Option Addr} {xs : List Value} (x : RowAt h ety size A n cap xs) : n ≤ cap := by
  rcases x.2 with ⟨_, q, _⟩ | ⟨_, _, _, _, q, _⟩ <;> omega
/-- what a fold answers -/
structure Fres (h : Hp) (nb bf bl : Nat) (N : Nd) (o : List El) (B : Nat) (h' : Hp) (M : Nd) (E : Option Addr) (j ec : Nat) (G : Option Addr) (gc : Nat) (p : Lo) (ns : List Nat) : Prop where
  nm : NmAt h' nb bf bl M
  ext : N.Ext M
  els : p.fo.els = o
  sat : SAt (h'.off bf bl) E j p
  ce : j ≤ ec
  tab : Tab (h'.off bf bl) 1 G j ((nums ns).map fun z => [iv z])
  cg : j ≤ gc
  num : Num M ns o
  off : (h.off bf bl).le (h'.off bf bl)
  sz : M.sz ≤ N.sz + B
theorem fold33 {h : Hp} {nb bf bl : Nat} {N : Nd} (hn : NmAt h nb bf bl N) {A D : Option Addr} {m c c' : Nat} {l : Lo} {ns : List Nat} (hs : SAt (h.off bf bl) A m l) (hca : m ≤ c) (ht : Tab (h.off bf bl) 1 D m ((nums ns).map fun z => [iv z])) (hcd : m ≤ c') (hnum : Num N ns l.fo.els) (hc : l.cnt ≤ 200000) {w : Nat} (hw : 1 ≤ w) (hw2 : w ≤ 16) (hsz : N.sz + m + 20 ≤ 4000000000) :
    Fn Try.prog 33 #[lptr nb, .agg #[.slice A m c, .slice D m c'], iv w] h fun v h' => ∃ M E j ec G gc p ns', v = .agg #[.slice E j ec, .slice G j gc] ∧ Fres h nb bf bl N (pass w l.fo.els) m h' M E j ec G gc p ns' := by
  have hm : m ≤ 200000 := by have := hs.1; have := l.len_cnt; omega
  refine Fn.intro (args := [lptr nb, .agg #[.slice A m c, .slice D m c'], iv w]) mix16 Try.func33 rfl (by decide) Try.ntmps33 rfl (low33 rfl) rfl ?_
  conv => whnf
  refine .pubd [.p 0 0] ?_
  conv => whnf
  refine .mk fun rb hrb => ?_
  conv => whnf
  obtain ⟨h1, hh1⟩ : ∃ h1, h1 = h.put rb (.cells [.slice A m c, .slice D m c'].toArray 60 (0, 0)) := ⟨_, rfl⟩
  have hl1 : h.le h1 := by rw [hh1]; exact Hp.le_put hrb
  have hn1 := hn.mono hl1
  obtain ⟨_, i2, i3⟩ := hn.in1
  have hof1 := Hp.off_mono (bf := bf) (bl := bl) hl1
  have x1 : Fold0 (h1.off bf bl) rb A D m c c' l ns := ⟨by
    rw [Hp.off_of (fun q => i2 (by rw [← q]; exact hrb)) (fun q => i3 (by rw [← q]; exact hrb)), hh1]; exact Hp.put_same _ _ _, hs.mono hof1, ht.mono hof1, hca, hcd, hm⟩
  have hel := x1.len.2
  refine .mkS [0, 1, 2] (Nat × Option Addr × Nat × Option Addr × Nat × Nat × Lo × List Nat × Nd) [0, 2, 4, 6, 7, 8] (fun (i, _, _, _, _, _, _, _, _) => [.v (lptr nb), .v (iv w), .p 0 0, .p 1 0, .p 2 0, .v (iv i)])
    (fun (_, E, ec, G, gc, j, _, _, _) => [.pub rb, .own [.v (.slice none 0 0), .v (.slice none 0 0)] 60, .own [.v (.slice E j ec), .v (.slice G j gc)] 60])
    (fun (i, E, ec, G, gc, j, p, ns', M) h' => Fst h h1 nb bf bl N l.fo.els m w h' i E ec G gc j p ns' M) (fun (i, _, _, _, _, _, _, _, _) => m - i) (0, none, 0, none, 0, 0, .nil, [], N) (fun _ => rfl)
    ⟨by rw [← hh1] at *; exact hn1, Nd.Ext.refl N, Nat.zero_le _, rfl, rfl, Nat.le_refl _, ⟨rfl, .inl ⟨rfl, rfl, rfl⟩⟩, ⟨rfl, .inl ⟨rfl, rfl, rfl⟩⟩, Num.nil N, trivial, (fun _ e => by cases e), (fun _ e => by cases e), (fun _ _ e => by cases e), by rw [hh1]; exact Hp.le_refl _, Nat.le_refl _⟩ rfl rfl rfl ?_
  rintro ⟨i, E, ec, G, gc, j, p, ns', M⟩ e h' S
  have hn2 := hn1.del S.nm S.fE
  have hn3 := hn1.del hn2 S.fG
  have hof3 := off_del (off_del S.off S.fE) S.fG
  have xH := x1.mono (Hp.le_trans hof3 (Hp.off_le _ _ _))
  refine .abs 41 3 E j ec _ S.rowE (.abs 3 1 G j gc _ (S.rowG.del fun g g' a b q => S.dis g' g b a q.symm) (.done ?_))
  obtain ⟨hX, hhX⟩ : ∃ hX, hX = delA (delA h' E) G := ⟨_, rfl⟩
  rw [← hhX] at hn3 hof3 xH ⊢
  -- the end of a round: the rows into the heap
  have fin : ∀ {H' : Hp} {M' : Nd} {i' : Nat} {E2 : Option Addr} {ec2 : Nat} {G2 : Option Addr} {gc2 : Nat} {t n : Int} {B : Option Addr} {mb cb : Nat} {b : Lo} {r : Nat}, NmAt H' nb bf bl M' → M.Ext M' → H'.off bf bl = hX.off bf bl → i < i' → i' ≤ m → pass w (l.fo.els.drop i) = (t, n, b.fo) :: pass w (l.fo.els.drop i') → SAt (h1.off bf bl) B mb b → M'.FSq r = (t, n, b.fo) → 1 ≤ r → r ≤ M'.fs.length → M'.sz + i ≤ M.sz + i' →
      ∀ {h4 h5 : Hp}, H'.le h4 → RowAt h4 41 3 E2 (j + 1) ec2 (p.cl.flatten ++ lcells t n B mb cb) → (∀ g, E2 = some g → H' g.block = none) → h4.le h5 → RowAt h5 3 1 G2 (j + 1) gc2 ((nums ns').map iv ++ [iv (r : Int)]) → (∀ g, G2 = some g → h4 g.block = none) →
      Fst h h1 nb bf bl N l.fo.els m w h5 i' E2 ec2 G2 gc2 (j + 1) (p.snoc t n B mb cb b) (ns' ++ [r]) M' := by
    intro H' M' i' E2 ec2 G2 gc2 t n B mb cb b r a1 a2 a3 a4 a5 a6 a7 a8 a9 a10 a11 h4 h5 l4 ro4 f4 l5 ro5 f5
    have hof' : (h1.off bf bl).le (H'.off bf bl) := by rw [a3]; exact hof3
    have hels := Lo.snoc_els t n B mb cb b p
    have s1 := S.sz
    have s2 := S.ji
    refine ⟨a1.mono (Hp.le_trans l4 l5), S.ext.trans a2, a5, ?_, by rw [Lo.snoc_len, S.len], by omega, ?_, ?_, ?_, Lo.snoc_bdw _ _ _ _ _ _ a7 S.bds, fun g e => a1.old hof' (f4 g e), fun g e => a1.old hof' (Hp.none_le l4 (f5 g e)), fun g g' e1 e2 q => ?_, Hp.le_trans hof' (Hp.off_mono (Hp.le_trans l4 l5)), by omega⟩
    · rw [hels, ← S.out, a6, List.append_assoc]; rfl
    · rw [Lo.snoc_cl, List.flatten_append, List.flatten_singleton]; exact ro4.mono l5
    · rw [nums_app, List.map_append]; exact ro5
    · rw [hels, ← a8]; exact (S.num.ext a2).snoc a9 a10
    · exact ro4.mem e1 (by rw [q]; exact f5 g' e2)
  show wpIR Try.prog 111 (.seq (.seq (.reg ir33_r4) (.cond (.t 17) .skip (.exit 0))) (.block 1 (.seq (.reg ir33_r5) (.seq (.block 2 (.loop ir33_l2)) irT33)))) _ _ _ _
  refine stepHd _ _ _ xH E j ec G gc _ _ rfl (fun hi e he => ?_) (fun hi e he => ?_)
  · have hnumM := hnum.ext S.ext
    show wpIR Try.prog 111 (.seq (.reg ir33_r5) (.seq (.block 2 (.loop ir33_l2)) irT33)) _ _ _ _
    refine stepW irT33 _ _ xH hn3.ok hnumM hw hw2 hi E j ec G gc _ _ he (fun e k hk hkm he => ?_)
    have s1 := S.sz
    have s2 := S.ji
    have s3 := S.im
    have hlt : i < l.fo.els.length := by omega
    refine stepT _ _ x1 hof3 hn3 hnumM hw hw2 hi hk hkm (by omega) E j ec G gc _ _ (by omega) he ?_ ?_
    · rintro rfl e' E2 ec2 G2 gc2 X t n B mb cb b r hdr hb he'
      have hd : l.fo.els.drop i = (t, n, b.fo) :: l.fo.els.drop (i + 1) := by
        have q1 := dr_els i l
        rw [hdr] at q1
        have q2 : l.fo.els.drop (i + 1) = (l.fo.els.drop i).drop 1 := by rw [List.drop_drop]
        rw [q2, ← q1]; rfl
      have hin := hnumM.le (ns[i]'(by rw [x1.len.1]; exact hi)) (List.getElem_mem _)
      have hFS : M.FSq (ns[i]'(by rw [x1.len.1]; exact hi)) = (t, n, b.fo) := by
        have q1 : (l.fo.els.drop i)[0]? = some (t, n, b.fo) := by rw [hd]; rfl
        rw [List.getElem?_drop, ← hnumM.eq, List.getElem?_map, List.getElem?_eq_getElem (by rw [x1.len.1]; exact hi)] at q1
        injection q1
      refine .pub 3 41 3 E2 (j + 1) ec2 _ rfl fun h4 l4 ro4 f4 => .pub 4 3 1 G2 (j + 1) gc2 _ rfl fun h5 l5 ro5 f5 => .done ⟨(i + 1, E2, ec2, G2, gc2, j + 1, p.snoc t n B mb cb b, ns' ++ [ns[i]'(by rw [x1.len.1]; exact hi)], M), he', rfl, ?_, by show m - (i + 1) < m - i; omega⟩
      refine fin hn3 (Nd.Ext.refl M) rfl (Nat.lt_succ_self i) hi ?_ hb hFS hin.1 hin.2 (by omega) l4 ro4 f4 l5 ro5 f5
      rw [hd] at hk ⊢
      exact pass_one hw hk
    · intro hk2 e' E2 ec2 G2 gc2 X B cb M' r H' hB a1 a2 a3 a4 a5 a6 a7 he'
      have hroom := hk.room hk2
      rw [List.length_drop] at hroom
      have hkw : 2 * w ≤ k * w := Nat.mul_le_mul_right w hk2
      have hmk : mkF ((l.fo.els.drop i).take w) = ((l.dr i).tk w).fo := by
        rw [← dr_els, ← tk_els, mk_els]
      refine .pub 3 41 3 E2 (j + 1) ec2 _ rfl fun h4 l4 ro4 f4 => .pub 4 3 1 G2 (j + 1) gc2 _ rfl fun h5 l5 ro5 f5 => .done ⟨(i + k * w, E2, ec2, G2, gc2, j + 1, p.snoc k 0 B w cb ((l.dr i).tk w), ns' ++ [r], M'), he', rfl, ?_, by show m - (i + k * w) < m - i; omega⟩
      refine fin a2 a1 a3 (by omega) (by omega) ?_ hB (by rw [a4, hmk]) a5 a6 (by omega) l4 ro4 f4 l5 ro5 f5
      rw [pass_many hw hk hk2, hmk, List.drop_drop]
  · have him : i = m := by have := S.im; omega
    subst him
    have hself := updL_self [0, 2, 4, 6, 7, 8] e
    rw [he] at hself
    rw [← hself]
    conv => whnf
    refine .pub 3 41 3 E j ec _ rfl fun h4 l4 ro4 f4 => .pub 4 3 1 G j gc _ rfl fun h5 l5 ro5 f5 => .done ?_
    have hof5 := Hp.le_trans hof3 (Hp.off_mono (bf := bf) (bl := bl) (Hp.le_trans l4 l5))
    have hout := S.out
    rw [List.drop_of_length_le (by omega), pass_nil, List.append_nil] at hout
    obtain ⟨_, j2, j3⟩ := hn1.in1
    have nb1 : ∀ {E : Option Addr}, (∀ g, E = some g → h1 g.block = none) → ∀ g, E = some g → g.block ≠ bf ∧ g.block ≠ bl := fun f g e => ⟨fun q => j2 (by rw [← q]; exact f g e), fun q => j3 (by rw [← q]; exact f g e)⟩
    refine ⟨M, E, j, ec, G, gc, p, ns', rfl, hn3.mono (Hp.le_trans l4 l5), S.ext, hout, ?_, row_capn ro4, (RowAt.nums ro5).off' (nb1 S.fG), row_capn ro5, by rw [← hout]; exact S.num, Hp.le_trans hof1 hof5, S.sz⟩
    have := Tab.sat (l := p) (A := E) (n := j) (RowAt.tab ((ro4.mono l5).off (nb1 S.fE)) p.cl_wid (by decide)) (S.bds.mono SK.mono hof5)
    exact this
end Go.Sx
