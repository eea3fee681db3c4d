/- Layer 19: the stable sort's merge: it only changes the order. Conditions: none. -/
import Derived.Test.YthibgmkobcbhhaaM19Q
import Derived.Test.YthibgmkobcbhhaaM19J
import Derived.Test.YthibgmkobcbhhaaM19K
namespace Go.Sx
open Go.Proofs Go.Sort
set_option maxRecDepth 100000
noncomputable def sA : IR := .seq (.reg ir78_r1) (.cond (.t 28) (.seq (.reg ir78_r2) (.seq (.reg ir78_r3) (.seq (.block 0 (.loop ir78_l1)) (.seq (.seq (.reg ir78_r9) (.block 2 (.loop ir78_l2))) .ret)))) .skip)
noncomputable def sB : IR := .seq (.reg ir78_r13) (.cond (.t 80) (.seq (.reg ir78_r14) (.seq (.reg ir78_r15) (.seq (.block 4 (.loop ir78_l3)) (.seq (.seq (.reg ir78_r21) (.block 6 (.loop ir78_l4))) .ret)))) .skip)
noncomputable def s28 : IR := .seq (.reg ir78_r28) (.cond (.t 140) (.seq (.reg ir78_r29) (.reg ir78_r30)) (.seq (.reg ir78_r31) (.reg ir78_r32)))
theorem sym_A (Q : Post) (e : Env) {h0 : Hp} {b : Nat} {tl : List Value} {q m cap : Nat} {X F : Option Addr} {k c d : Nat} {pk : List Int} (hm : m ≤ 1000000) (hF : ∀ ys, Facts (hS h0 b tl ys) q X F k c m d pk) (os : List Nat) (hos : os.length = m) (hx : ∀ x ∈ os, x < m) (x y z : Int) (h0x : 0 ≤ x) (hxy : x < y) (hyz : y < z) (hz : z ≤ m)
    (he : [0, 1, 2, 3, 4].map e = [.v (.slice (some ⟨b, 0, none⟩) m cap), .v (iv x), .v (iv y), .v (iv z), .v (fnP q)]) (hR : ∀ e ys, List.Perm ys os → Q .ret e [] (hS h0 b tl ys)) (hN : ∀ e, [0, 1, 2, 3, 4].map e = [.v (.slice (some ⟨b, 0, none⟩) m cap), .v (iv x), .v (iv y), .v (iv z), .v (fnP q)] → ¬ y - x = 1 → Q .normal e [] (hS h0 b tl os)) :
    wpIR Try.prog 220 sA Q e [] (hS h0 b tl os) := by
  have hself := updL_self [0, 1, 2, 3, 4] e
  rw [he] at hself
  rw [← hself]
  conv => whnf
  refine .ok (by omega) (by omega) ?_
  conv => whnf
  refine br_dec (fun u => ?_) (fun u => ?_)
  · conv => whnf
    refine .mk (Int × Int) [0, 1, 4, 10, 11] (fun (i, j) => [.v (.slice (some ⟨b, 0, none⟩) m cap), .v (iv x), .v (fnP q), .v (iv i), .v (iv j)]) (fun _ => []) (fun (i, j) h' => y ≤ i ∧ i ≤ j ∧ j ≤ z ∧ h' = hS h0 b tl os) (fun (i, j) => (j - i).toNat) (y, z) (fun (_, _) => rfl) ⟨by omega, by omega, by omega, rfl⟩ rfl rfl ?_
    rintro ⟨i, j⟩ e2 h2 ⟨hi, hij, hj, rfl⟩
    conv => whnf
    refine br_dec (fun u2 => ?_) (fun u2 => ?_)
    · have hd := fdiv2 (i + j)
      conv => whnf
      refine .ok (by omega) (by omega) ?_
      conv => whnf
      refine .mk (by omega) (by omega) ?_
      conv => whnf
      refine .mk (by omega) (by omega) ?_
      conv => whnf
      generalize (i + j).fdiv 2 = t at hd ⊢
      conv => whnf
      refine .mk _ rfl (by omega) (by omega) ?_
      conv => whnf
      refine .hp _ (ldS (j := t.toNat) (by omega) (by omega)) ?_
      conv => whnf
      refine .mk _ rfl (by omega) (by omega) ?_
      conv => whnf
      refine .hp _ (ldS (j := x.toNat) (by omega) (by omega)) ?_
      conv => whnf
      refine .mk _ (place37 (hF os) hm (hx _ (List.getElem_mem _)) (hx _ (List.getElem_mem _))) ?_ ?_
      · rintro _ _ ⟨rfl, rfl⟩; exact Hp.le_refl _
      rintro _ _ ⟨rfl, rfl⟩
      conv => whnf
      refine br_intro (fun _ => ?_) (fun _ => ?_)
      · conv => whnf
        refine .ok (by omega) (by omega) ?_
        conv => whnf
        exact ⟨(t + 1, j), rfl, rfl, ⟨by omega, by omega, hj, rfl⟩, by show (j - (t + 1)).toNat < (j - i).toNat; omega⟩
      · conv => whnf
        exact ⟨(i, t), rfl, rfl, ⟨hi, by omega, by omega, rfl⟩, by show (t - i).toNat < (j - i).toNat; omega⟩
    · conv => whnf
      refine .mk (Int × List Nat) [0, 10, 13] (fun (w, _) => [.v (.slice (some ⟨b, 0, none⟩) m cap), .v (iv i), .v (iv w)]) (fun _ => []) (fun (w, ys) h' => x ≤ w ∧ w ≤ m ∧ ys.Perm os ∧ h' = hS h0 b tl ys) (fun (w, _) => (i - w).toNat) (x, os) (fun (_, _) => rfl) ⟨by omega, by omega, .refl _, rfl⟩ rfl rfl ?_
      rintro ⟨w, ys⟩ e3 h3 ⟨hw, hwm, hp, rfl⟩
      have hyl : ys.length = m := by rw [hp.length_eq, hos]
      conv => whnf
      refine .ok (by omega) (by omega) ?_
      conv => whnf
      refine br_dec (fun u3 => ?_) (fun u3 => ?_)
      · obtain ⟨w, rfl⟩ := Int.eq_ofNat_of_zero_le (show 0 ≤ w by omega)
        conv => whnf
        refine .ok (by omega) (by omega) ?_
        conv => whnf
        refine .ok (by omega) (by omega) ?_
        conv => whnf
        refine .mk _ rfl (by omega) (by omega) ?_
        conv => whnf
        refine .hp _ (ldS (j := w + 1) (by omega) (by omega)) ?_
        conv => whnf
        refine .mk _ rfl (by omega) (by omega) ?_
        conv => whnf
        refine .hp _ (ldS (j := w) (by omega) (by omega)) ?_
        conv => whnf
        refine .mk _ rfl (by omega) (by omega) ?_
        conv => whnf
        refine stS (j := w) (v := ys[w + 1]) (by omega) (by omega) ?_
        conv => whnf
        refine .mk _ rfl (by omega) (by omega) ?_
        conv => whnf
        refine stS (j := w + 1) (v := ys[w]) (by omega) (by simp; omega) ?_
        have sw := swp_perm (os := ys) (i := w) (j := w + 1) (by omega) (by omega)
        rw [swp_eq (by omega) (by omega)]
        conv => whnf
        refine .ok (by omega) (by omega) ?_
        conv => whnf
        exact ⟨((w : Int) + 1, _), rfl, rfl, ⟨by omega, by omega, sw.trans hp, rfl⟩, by show (i - ((w : Int) + 1)).toNat < (i - (w : Int)).toNat; omega⟩
      · conv => whnf
        exact hR _ ys hp
  · conv => whnf
    exact hN _ rfl u
theorem sym_B (Q : Post) (e : Env) {h0 : Hp} {b : Nat} {tl : List Value} {q m cap : Nat} {X F : Option Addr} {k c d : Nat} {pk : List Int} (hm : m ≤ 1000000) (hF : ∀ ys, Facts (hS h0 b tl ys) q X F k c m d pk) (os : List Nat) (hos : os.length = m) (hx : ∀ x ∈ os, x < m) (x y z : Int) (h0x : 0 ≤ x) (hxy : x < y) (hyz : y < z) (hz : z ≤ m)
    (he : [0, 1, 2, 3, 4].map e = [.v (.slice (some ⟨b, 0, none⟩) m cap), .v (iv x), .v (iv y), .v (iv z), .v (fnP q)]) (hR : ∀ e ys, List.Perm ys os → Q .ret e [] (hS h0 b tl ys)) (hN : ∀ e, [0, 1, 2, 3, 4].map e = [.v (.slice (some ⟨b, 0, none⟩) m cap), .v (iv x), .v (iv y), .v (iv z), .v (fnP q)] → ¬ z - y = 1 → Q .normal e [] (hS h0 b tl os)) :
    wpIR Try.prog 220 sB Q e [] (hS h0 b tl os) := by
  have hself := updL_self [0, 1, 2, 3, 4] e
  rw [he] at hself
  rw [← hself]
  conv => whnf
  refine .ok (by omega) (by omega) ?_
  conv => whnf
  refine br_dec (fun u => ?_) (fun u => ?_)
  · conv => whnf
    refine .mk (Int × Int) [0, 2, 4, 14, 15] (fun (i, j) => [.v (.slice (some ⟨b, 0, none⟩) m cap), .v (iv y), .v (fnP q), .v (iv i), .v (iv j)]) (fun _ => []) (fun (i, j) h' => x ≤ i ∧ i ≤ j ∧ j ≤ y ∧ h' = hS h0 b tl os) (fun (i, j) => (j - i).toNat) (x, y) (fun (_, _) => rfl) ⟨by omega, by omega, by omega, rfl⟩ rfl rfl ?_
    rintro ⟨i, j⟩ e2 h2 ⟨hi, hij, hj, rfl⟩
    conv => whnf
    refine br_dec (fun u2 => ?_) (fun u2 => ?_)
    · have hd := fdiv2 (i + j)
      conv => whnf
      refine .ok (by omega) (by omega) ?_
      conv => whnf
      refine .mk (by omega) (by omega) ?_
      conv => whnf
      refine .mk (by omega) (by omega) ?_
      conv => whnf
      generalize (i + j).fdiv 2 = t at hd ⊢
      conv => whnf
      refine .mk _ rfl (by omega) (by omega) ?_
      conv => whnf
      refine .hp _ (ldS (j := y.toNat) (by omega) (by omega)) ?_
      conv => whnf
      refine .mk _ rfl (by omega) (by omega) ?_
      conv => whnf
      refine .hp _ (ldS (j := t.toNat) (by omega) (by omega)) ?_
      conv => whnf
      refine .mk _ (place37 (hF os) hm (hx _ (List.getElem_mem _)) (hx _ (List.getElem_mem _))) ?_ ?_
      · rintro _ _ ⟨rfl, rfl⟩; exact Hp.le_refl _
      rintro _ _ ⟨rfl, rfl⟩
      conv => whnf
      refine br_intro (fun _ => ?_) (fun _ => ?_)
      · conv => whnf
        refine .ok (by omega) (by omega) ?_
        conv => whnf
        exact ⟨(t + 1, j), rfl, rfl, ⟨by omega, by omega, hj, rfl⟩, by show (j - (t + 1)).toNat < (j - i).toNat; omega⟩
      · conv => whnf
        exact ⟨(i, t), rfl, rfl, ⟨hi, by omega, by omega, rfl⟩, by show (t - i).toNat < (j - i).toNat; omega⟩
    · conv => whnf
      refine .mk (Int × List Nat) [0, 14, 17] (fun (w, _) => [.v (.slice (some ⟨b, 0, none⟩) m cap), .v (iv i), .v (iv w)]) (fun _ => []) (fun (w, ys) h' => i ≤ w ∧ w ≤ y ∧ ys.Perm os ∧ h' = hS h0 b tl ys) (fun (w, _) => (w - i).toNat) (y, os) (fun (_, _) => rfl) ⟨by omega, by omega, .refl _, rfl⟩ rfl rfl ?_
      rintro ⟨w, ys⟩ e3 h3 ⟨hw, hwm, hp, rfl⟩
      have hyl : ys.length = m := by rw [hp.length_eq, hos]
      conv => whnf
      refine br_dec (fun u3 => ?_) (fun u3 => ?_)
      · obtain ⟨w, rfl⟩ := Int.eq_ofNat_of_zero_le (show 0 ≤ w by omega)
        conv => whnf
        refine .ok (by omega) (by omega) ?_
        conv => whnf
        refine .ok (by omega) (by omega) ?_
        conv => whnf
        refine .mk _ rfl (by omega) (by omega) ?_
        conv => whnf
        refine .hp _ (ldS (j := w - 1) (by omega) (by omega)) ?_
        conv => whnf
        refine .mk _ rfl (by omega) (by omega) ?_
        conv => whnf
        refine .hp _ (ldS (j := w) (by omega) (by omega)) ?_
        conv => whnf
        refine .mk _ rfl (by omega) (by omega) ?_
        conv => whnf
        refine stS (j := w) (v := ys[w - 1]) (by omega) (by omega) ?_
        conv => whnf
        refine .mk _ rfl (by omega) (by omega) ?_
        conv => whnf
        refine stS (j := w - 1) (v := ys[w]) (by omega) (by simp; omega) ?_
        have sw := swp_perm (os := ys) (i := w) (j := w - 1) (by omega) (by omega)
        rw [swp_eq (by omega) (by omega)]
        conv => whnf
        refine .ok (by omega) (by omega) ?_
        conv => whnf
        exact ⟨((w : Int) - 1, _), rfl, rfl, ⟨by omega, by omega, sw.trans hp, rfl⟩, by show ((w : Int) - 1 - i).toNat < ((w : Int) - i).toNat; omega⟩
      · conv => whnf
        exact hR _ ys hp
  · conv => whnf
    exact hN _ rfl u
theorem sym_c25 (Q : Post) (e : Env) {h0 : Hp} {b : Nat} {tl : List Value} {q m cap : Nat} (hm : m ≤ 1000000) (os : List Nat) (x y z : Int) (h0x : 0 ≤ x) (hxy : x < y) (hyz : y < z) (hz : z ≤ m)
    (he : [0, 1, 2, 3, 4].map e = [.v (.slice (some ⟨b, 0, none⟩) m cap), .v (iv x), .v (iv y), .v (iv z), .v (fnP q)]) (hQ : ∀ e t, 2 * t ≤ x + z → x + z ≤ 2 * t + 1 → [0, 1, 2, 3, 4, 18].map e = [.v (.slice (some ⟨b, 0, none⟩) m cap), .v (iv x), .v (iv y), .v (iv z), .v (fnP q), .v (iv t)] → Q .normal e [] (hS h0 b tl os)) : wpIR Try.prog 220 (.reg ir78_r25) Q e [] (hS h0 b tl os) := by
  have hself := updL_self [0, 1, 2, 3, 4] e
  rw [he] at hself
  rw [← hself]
  have hd := fdiv2 (x + z)
  conv => whnf
  refine .ok (by omega) (by omega) ?_
  conv => whnf
  refine .mk (by omega) (by omega) ?_
  conv => whnf
  refine .mk (by omega) (by omega) ?_
  conv => whnf
  exact hQ _ _ hd.1 hd.2 rfl
theorem sym_c26 (Q : Post) (e : Env) {h0 : Hp} {b : Nat} {tl : List Value} {q m cap : Nat} (hm : m ≤ 1000000) (os : List Nat) (x y z : Int) (h0x : 0 ≤ x) (hxy : x < y) (hyz : y < z) (hz : z ≤ m) (t : Int) (ht : 0 ≤ t) (ht2 : t ≤ m)
    (he : [0, 1, 2, 3, 4, 18].map e = [.v (.slice (some ⟨b, 0, none⟩) m cap), .v (iv x), .v (iv y), .v (iv z), .v (fnP q), .v (iv t)]) (hQ : ∀ e, [0, 1, 2, 3, 4, 18, 19].map e = [.v (.slice (some ⟨b, 0, none⟩) m cap), .v (iv x), .v (iv y), .v (iv z), .v (fnP q), .v (iv t), .v (iv (t + y))] → Q .normal e [] (hS h0 b tl os)) : wpIR Try.prog 220 (.reg ir78_r26) Q e [] (hS h0 b tl os) := by
  have hself := updL_self [0, 1, 2, 3, 4, 18] e
  rw [he] at hself
  rw [← hself]
  conv => whnf
  refine .ok (by omega) (by omega) ?_
  conv => whnf
  exact hQ _ rfl
theorem sym_c27 (Q : Post) (e : Env) (h : Hp) (vs : List SV)
    (he : [0, 1, 2, 3, 4, 18, 19].map e = vs) (hQ : ∀ e, [0, 1, 2, 3, 4, 18, 19].map e = vs → Q .normal e [] h) : wpIR Try.prog 220 (.reg ir78_r27) Q e [] h := by
  subst he
  conv => whnf
  exact hQ _ rfl
theorem sym_c28 (Q : Post) (e : Env) {h0 : Hp} {b : Nat} {tl : List Value} {q m cap : Nat} (hm : m ≤ 1000000) (os : List Nat) (x y z : Int) (h0x : 0 ≤ x) (hxy : x < y) (hyz : y < z) (hz : z ≤ m) (t : Int) (ht : 0 ≤ t) (ht2 : t ≤ m) (hd1 : 2 * t ≤ x + z) (hd2 : x + z ≤ 2 * t + 1)
    (he : [0, 1, 2, 3, 4, 18, 19].map e = [.v (.slice (some ⟨b, 0, none⟩) m cap), .v (iv x), .v (iv y), .v (iv z), .v (fnP q), .v (iv t), .v (iv (t + y))]) (hQ : ∀ (e : Env) (S R : Int), 0 ≤ S → S ≤ R → R ≤ m → t + y - S ≤ m → R ≤ t + y → [0, 1, 2, 3, 4, 18, 19, 20, 21].map e = [.v (.slice (some ⟨b, 0, none⟩) m cap), .v (iv x), .v (iv y), .v (iv z), .v (fnP q), .v (iv t), .v (iv (t + y)), .v (iv S), .v (iv R)] → Q .normal e [] (hS h0 b tl os)) : wpIR Try.prog 220 s28 Q e [] (hS h0 b tl os) := by
  have hself := updL_self [0, 1, 2, 3, 4, 18, 19] e
  rw [he] at hself
  rw [← hself]
  conv => whnf
  refine br_dec (fun u => ?_) (fun u => ?_)
  · conv => whnf
    refine .ok (by omega) (by omega) ?_
    conv => whnf
    exact hQ _ (t + y - z) t (by omega) (by omega) (by omega) (by omega) (by omega) rfl
  · conv => whnf
    exact hQ _ x y (by omega) (by omega) (by omega) (by omega) (by omega) rfl
noncomputable def s27 : IR := .seq (.reg ir78_r27) (.seq s28 sR0)
noncomputable def s26 : IR := .seq (.reg ir78_r26) s27
noncomputable def s25 : IR := .seq (.reg ir78_r25) s26
theorem sym_M (Q : Post) (e : Env) {h0 : Hp} {b : Nat} {tl : List Value} {q m cap N : Nat} {X F : Option Addr} {k c d : Nat} {pk : List Int} (hm : m ≤ 1000000) (hF : ∀ ys, Facts (hS h0 b tl ys) q X F k c m d pk) (hI : SymTo h0 b tl q m cap N) (os : List Nat) (hos : os.length = m) (hx : ∀ x ∈ os, x < m) (x y z : Int) (h0x : 0 ≤ x) (hxy : x < y) (hyz : y < z) (hz : z ≤ m) (hN : (z - x).toNat < N + 1) (u : ¬ y - x = 1) (u2 : ¬ z - y = 1)
    (he : [0, 1, 2, 3, 4].map e = [.v (.slice (some ⟨b, 0, none⟩) m cap), .v (iv x), .v (iv y), .v (iv z), .v (fnP q)]) (hQ : ∀ e ys, List.Perm ys os → Q .normal e [] (hS h0 b tl ys)) : wpIR Try.prog 220 s25 Q e [] (hS h0 b tl os) := by
  refine sym_c25 (fun ex e L h => match ex with | .normal => wpIR Try.prog 220 s26 Q e L h | ex => Q ex e L h) e hm os x y z h0x hxy hyz hz he fun e1 t hd1 hd2 he1 => ?_
  refine sym_c26 (fun ex e L h => match ex with | .normal => wpIR Try.prog 220 s27 Q e L h | ex => Q ex e L h) e1 hm os x y z h0x hxy hyz hz t (by omega) (by omega) he1 fun e2 he2 => ?_
  refine sym_c27 (fun ex e L h => match ex with | .normal => wpIR Try.prog 220 (.seq s28 sR0) Q e L h | ex => Q ex e L h) e2 _ _ he2 fun e3 he3 => ?_
  refine sym_c28 (fun ex e L h => match ex with | .normal => wpIR Try.prog 220 sR0 Q e L h | ex => Q ex e L h) e3 hm os x y z h0x hxy hyz hz t (by omega) (by omega) hd1 hd2 he3 fun e4 S R hS0 hSR hR hSn hRn he4 => ?_
  exact sym_r0 Q e4 hm hF hI os hos hx x y z t (t + y) S R h0x (by omega) (by omega) (by omega) (by omega) hz hS0 hSR hR hSn hRn (by omega) he4 hQ
theorem sym78 {h0 : Hp} {b : Nat} {tl : List Value} {q m cap : Nat} {X F : Option Addr} {k c d : Nat} {pk : List Int} (hm : m ≤ 1000000) (hF : ∀ ys, Facts (hS h0 b tl ys) q X F k c m d pk) : ∀ N, SymTo h0 b tl q m cap N
  | 0 => fun _ _ _ x y z hN => absurd hN (Nat.not_lt_zero _)
  | N + 1 => by
    intro os hos hx x y z hN h0x hxy hyz hz
    have ih := sym78 (cap := cap) hm hF N
    refine Fn.intro (args := [.slice (some ⟨b, 0, none⟩) m cap, iv x, iv y, iv z, fnP q]) mix14 Try.func78 rfl (by decide) Try.ntmps78 rfl (low78 rfl) rfl ?_
    generalize hQ : wpEnd Try.prog Try.f78.results.toList _ = Q
    have hQn : ∀ e ys, List.Perm ys os → Q .normal e [] (hS h0 b tl ys) := fun e ys hp => by
      subst hQ
      conv => whnf
      exact .done ⟨rfl, ys, hp, rfl⟩
    have hQr : ∀ e ys, List.Perm ys os → Q .ret e [] (hS h0 b tl ys) := fun e ys hp => by
      subst hQ
      conv => whnf
      exact .done ⟨rfl, ys, hp, rfl⟩
    clear hQ
    refine sym_A (fun ex e L h => match ex with | .normal => wpIR Try.prog 220 (.seq sB s25) Q e L h | ex => Q ex e L h) _ hm hF os hos hx x y z h0x hxy hyz hz rfl hQr fun e1 he1 u => ?_
    refine sym_B (fun ex e L h => match ex with | .normal => wpIR Try.prog 220 s25 Q e L h | ex => Q ex e L h) e1 hm hF os hos hx x y z h0x hxy hyz hz he1 hQr fun e2 he2 u2 => ?_
    exact sym_M Q e2 hm hF ih os hos hx x y z h0x hxy hyz hz hN u u2 he2 hQn
end Go.Sx
namespace Go.Sx
open Go.Proofs Go.Sort
set_option maxRecDepth 100000
theorem stb58 {h0 : Hp} {b : Nat} {tl : List Value} {q m cap : Nat} {X F : Option Addr} {k c d : Nat} {pk : List Int} (hm : m ≤ 1000000) (hF : ∀ ys, Facts (hS h0 b tl ys) q X F k c m d pk) (os : List Nat) (hos : os.length = m) (hx : ∀ x ∈ os, x < m) :
    Fn Try.prog 58 #[.slice (some ⟨b, 0, none⟩) m cap, iv m, fnP q] (hS h0 b tl os) fun v h' => Sw h0 b tl os v h' := by
  refine Fn.intro (args := [.slice (some ⟨b, 0, none⟩) m cap, iv m, fnP q]) mix14 Try.func58 rfl (by decide) Try.ntmps58 rfl (low58 rfl) rfl ?_
  generalize hc : IR.block 2 (.loop ir58_l2) = c2
  conv => whnf
  refine .mk (Int × Int × List Nat) [0, 1, 2, 6, 7, 8] (fun (i, j, _) => [.v (.slice (some ⟨b, 0, none⟩) m cap), .v (iv m), .v (fnP q), .v (iv 20), .v (iv i), .v (iv j)]) (fun _ => []) (fun (i, j, ys) h' => 0 ≤ i ∧ i ≤ m ∧ j = i + 20 ∧ ys.Perm os ∧ h' = hS h0 b tl ys) (fun (i, _, _) => ((m : Int) - i).toNat) (0, 20, os) (fun (_, _, _) => rfl) ⟨by omega, by omega, by omega, .refl _, rfl⟩ rfl rfl ?_
  rintro ⟨i, j, ys⟩ e h' ⟨hi, him, rfl, hp, rfl⟩
  have hyl : ys.length = m := by rw [hp.length_eq, hos]
  have hxy : ∀ x ∈ ys, x < m := fun x hx2 => hx x (hp.mem_iff.1 hx2)
  conv => whnf
  refine br_dec (fun u => ?_) (fun u => ?_)
  · conv => whnf
    refine .done (.mk _ (ins77 hm hF ys hyl hxy i (i + 20) hi (by omega) u) ?_)
    rintro _ _ ⟨rfl, zs, hp2, rfl⟩
    conv => whnf
    refine .ok (by omega) (by omega) ?_
    conv => whnf
    exact ⟨(i + 20, i + 20 + 20, zs), rfl, rfl, ⟨by omega, by omega, rfl, hp2.trans hp, rfl⟩, by show ((m : Int) - (i + 20)).toNat < ((m : Int) - i).toNat; omega⟩
  · conv => whnf
    refine .done (.mk _ (ins77 hm hF ys hyl hxy i m hi him (by omega)) ?_)
    rintro _ _ ⟨rfl, zs, hp2, rfl⟩
    conv => whnf
    subst hc
    conv => whnf
    refine .mk (Int × List Nat) [0, 1, 2, 6] (fun (s, _) => [.v (.slice (some ⟨b, 0, none⟩) m cap), .v (iv m), .v (fnP q), .v (iv s)]) (fun _ => []) (fun (s, ws) h' => 20 ≤ s ∧ s ≤ 2000020 ∧ ws.Perm os ∧ h' = hS h0 b tl ws) (fun (s, _) => ((m : Int) - s).toNat) (20, zs) (fun (_, _) => rfl) ⟨by omega, by omega, hp2.trans hp, rfl⟩ rfl rfl ?_
    rintro ⟨s, ws⟩ e2 h2 ⟨hs, hs2, hpw, rfl⟩
    conv => whnf
    refine br_dec (fun w => ?_) (fun w => ?_)
    · have hwl : ws.length = m := by rw [hpw.length_eq, hos]
      conv => whnf
      refine .ok (by omega) (by omega) ?_
      conv => whnf
      refine .mk (Int × Int × List Nat) [0, 1, 2, 6, 7, 8] (fun (i, j, _) => [.v (.slice (some ⟨b, 0, none⟩) m cap), .v (iv m), .v (fnP q), .v (iv s), .v (iv i), .v (iv j)]) (fun _ => []) (fun (i, j, ys) h' => 0 ≤ i ∧ i ≤ m ∧ j = i + 2 * s ∧ ys.Perm os ∧ h' = hS h0 b tl ys) (fun (i, _, _) => ((m : Int) - i).toNat) (0, 2 * s, ws) (fun (_, _, _) => rfl) ⟨by omega, by omega, by omega, hpw, rfl⟩ rfl rfl ?_
      rintro ⟨i, j, vs⟩ e3 h3 ⟨hi, him, rfl, hpv, rfl⟩
      have hvl : vs.length = m := by rw [hpv.length_eq, hos]
      have hxv : ∀ x ∈ vs, x < m := fun x hx2 => hx x (hpv.mem_iff.1 hx2)
      conv => whnf
      refine br_dec (fun u2 => ?_) (fun u2 => ?_)
      · conv => whnf
        refine .ok (by omega) (by omega) ?_
        conv => whnf
        refine .done (.mk _ (sym78 hm hF (i + 2 * s - i + 1).toNat vs hvl hxv i (i + s) (i + 2 * s) (by omega) hi (by omega) (by omega) u2) ?_)
        rintro _ _ ⟨rfl, ys3, hp3, rfl⟩
        conv => whnf
        refine .ok (by omega) (by omega) ?_
        conv => whnf
        refine .ok (by omega) (by omega) ?_
        conv => whnf
        exact ⟨(i + 2 * s, i + 2 * s + 2 * s, ys3), rfl, rfl, ⟨by omega, by omega, rfl, hp3.trans hpv, rfl⟩, by show ((m : Int) - (i + 2 * s)).toNat < ((m : Int) - i).toNat; omega⟩
      · conv => whnf
        refine .ok (by omega) (by omega) ?_
        conv => whnf
        refine br_dec (fun u3 => ?_) (fun u3 => ?_)
        · conv => whnf
          refine .done (.mk _ (sym78 hm hF ((m : Int) - i + 1).toNat vs hvl hxv i (i + s) m (by omega) hi (by omega) u3 (by omega)) ?_)
          rintro _ _ ⟨rfl, ys3, hp3, rfl⟩
          conv => whnf
          refine .ok (by omega) (by omega) ?_
          conv => whnf
          exact ⟨(s * 2, ys3), rfl, rfl, ⟨by omega, by omega, hp3.trans hpv, rfl⟩, by show ((m : Int) - s * 2).toNat < ((m : Int) - s).toNat; omega⟩
        · conv => whnf
          refine .ok (by omega) (by omega) ?_
          conv => whnf
          exact ⟨(s * 2, vs), rfl, rfl, ⟨by omega, by omega, hpv, rfl⟩, by show ((m : Int) - s * 2).toNat < ((m : Int) - s).toNat; omega⟩
    · conv => whnf
      exact .done ⟨rfl, ws, hpw, rfl⟩
theorem stb36 {h0 : Hp} {b : Nat} {tl : List Value} {q m cap : Nat} {X F : Option Addr} {k c d : Nat} {pk : List Int} (hm : m ≤ 1000000) (hF : ∀ ys, Facts (hS h0 b tl ys) q X F k c m d pk) (os : List Nat) (hos : os.length = m) (hx : ∀ x ∈ os, x < m) :
    Fn Try.prog 36 #[.slice (some ⟨b, 0, none⟩) m cap, fnP q] (hS h0 b tl os) fun v h' => Sw h0 b tl os v h' := by
  refine Fn.intro (args := [.slice (some ⟨b, 0, none⟩) m cap, fnP q]) mix14 Try.func36 rfl (by decide) Try.ntmps36 rfl (low36 rfl) rfl ?_
  conv => whnf
  refine .done (.mk _ (stb58 hm hF os hos hx) ?_)
  rintro _ _ ⟨rfl, zs, hp2, rfl⟩
  conv => whnf
  exact .done ⟨rfl, zs, hp2, rfl⟩
end Go.Sx
namespace Go.Sx
open Go.Proofs Go.Sort
set_option maxRecDepth 100000
theorem Tab.putNe {h : Hp} {size n : Nat} {A : Option Addr} {rows : List (List Value)} (t : Tab h size A n rows) {b : Nat} {o : Obj} (hne : ∀ g, A = some g → 0 < n → g.block ≠ b) : Tab (h.put b o) size A n rows := by
  refine ⟨t.len, t.wid, t.ad, fun g hg i r hr j v hv => ?_⟩
  have h0 : 0 < n := by
    have := (List.getElem?_eq_some_iff.1 hr).1
    have := t.len
    omega
  have hb := hne g hg h0
  have := t.cell g hg i r hr j v hv
  have hadd : (g.add (i * size + j)).block = g.block := by unfold Addr.add; split <;> rfl
  unfold Hp.cell? at this ⊢
  rw [Hp.put_ne _ _ (by rw [hadd]; exact hb)]
  exact this
theorem stab_all (m : Nat) (hm : m ≤ 1000000) (pk : List Int) : StabOk m pk fun _ => True := by
  intro h q X F kk c d f A cap hr hdis
  obtain ⟨hxs, h2⟩ := hr
  rcases h2 with ⟨rfl, rfl, rfl⟩ | ⟨b, cur, rfl, hb, hn, hc, hsz, htk⟩
  · refine (stable36 f (by decide) none 0 0 [] (Tab.nil _ _ _) (by decide) (fun _ hx => by cases hx) (fun i hi => absurd hi (Nat.not_lt_zero _))).mono ?_
    rintro v h' ⟨rfl, rfl⟩
    exact ⟨rfl, [], .refl _, trivial, ⟨rfl, .inl ⟨rfl, rfl, rfl⟩⟩, fun _ _ => rfl⟩
  · have hq : q ≠ b := fun e => by
      have := f.cell
      rw [e, hb] at this
      injection this with this
      injection this with _ this _
      cases this
    have hcur : cur = (((List.range m).map fun z : Nat => iv (z : Int)) ++ cur.toList.drop (m * 1)).toArray := by
      rw [← htk, List.take_append_drop]
    have hcl : cur.size = cap := by omega
    have htl : (cur.toList.drop (m * 1)).length = cap - m := by simp; omega
    generalize cur.toList.drop (m * 1) = tl at hcur htl
    have he : h = hS h b tl (List.range m) := by
      funext j
      unfold hS
      by_cases hj : j = b
      · rw [hj, Hp.put_same, hb, hcur]
      · rw [Hp.put_ne _ _ hj]
    have hF : ∀ ys, Facts (hS h b tl ys) q X F kk c m d pk := fun ys =>
      ⟨by unfold hS; rw [Hp.put_ne _ _ hq]; exact f.cell, f.tab.putNe fun g hg h0 e => hdis _ g rfl hg h0 e.symm⟩
    have := stb36 (cap := cap) (m := m) hm hF (List.range m) List.length_range (fun x hx => List.mem_range.1 hx)
    rw [← he] at this
    refine this.mono ?_
    rintro v h' ⟨rfl, os, hp, rfl⟩
    have hol : os.length = m := by rw [hp.length_eq, List.length_range]
    refine ⟨rfl, os, hp, trivial, ⟨by simp [hol], .inr ⟨b, _, rfl, hS_at _ _ _ _, hn, hc, by simp [hol, htl]; omega, ?_⟩⟩, fun j hj => ?_⟩
    · simp [hol]
    · exact Hp.put_ne _ _ (hj _ rfl)
end Go.Sx
namespace Go.Sx
open Go.Proofs Go.Sort
set_option maxRecDepth 100000
def mv (d : Int) (x : Pr) : Pr := (x.1 + d, x.2)
theorem fold_le : ∀ (l : List Pr) (a n : Int), l.foldl (fun n x => max n (x.1 + x.2)) a ≤ n ↔ a ≤ n ∧ ∀ x ∈ l, x.1 + x.2 ≤ n
  | [], a, n => by simp
  | x :: l, a, n => by
    simp only [List.foldl_cons, fold_le l, List.mem_cons, forall_eq_or_imp]
    constructor
    · rintro ⟨h, h2⟩; exact ⟨by omega, by omega, h2⟩
    · rintro ⟨h, h1, h2⟩; exact ⟨by omega, h2⟩
theorem total_le {l : List Pr} {n : Int} : totalR l ≤ n ↔ 0 ≤ n ∧ ∀ x ∈ l, x.1 + x.2 ≤ n := fold_le l 0 n
theorem total_ge {l : List Pr} {x : Pr} (h : x ∈ l) : x.1 + x.2 ≤ totalR l := (total_le.1 (Int.le_refl _)).2 x h
theorem total_pos (l : List Pr) : 0 ≤ totalR l := (total_le.1 (Int.le_refl _)).1
theorem total_mv {l : List Pr} {d : Int} (hl : l ≠ []) (h0 : ∀ x ∈ l, 0 ≤ x.1 ∧ 0 ≤ x.2) (hd : 0 ≤ d) : totalR (l.map (mv d)) = totalR l + d := by
  have h1 : totalR (l.map (mv d)) ≤ totalR l + d := by
    rw [total_le]
    refine ⟨by have := total_pos l; omega, fun x hx => ?_⟩
    obtain ⟨y, hy, rfl⟩ := List.mem_map.1 hx
    have := total_ge hy
    show y.1 + d + y.2 ≤ _
    omega
  have h3 : ∀ y ∈ l, y.1 + d + y.2 ≤ totalR (l.map (mv d)) := fun y hy => total_ge (x := mv d y) (List.mem_map_of_mem hy)
  have h2 : totalR l ≤ totalR (l.map (mv d)) - d := by
    rw [total_le]
    refine ⟨?_, fun y hy => by have := h3 y hy; omega⟩
    obtain ⟨y, hy⟩ := List.exists_mem_of_ne_nil l hl
    have := h3 y hy
    have := h0 y hy
    omega
  omega
theorem share_mv (x y : Pr) (d : Int) : shareR (mv d x) (mv d y) = shareR x y := by
  unfold shareR mv
  simp only [decide_eq_decide]
  omega
theorem regE_mv {d T : Int} (hd : 0 ≤ d) (hT : T + d ≤ 1024) : ∀ (rs : List Pr) (pk : List Int), regE rs pk = 0 → rs.length = pk.length → (∀ x ∈ rs, x.1 + x.2 ≤ T) → regE (rs.map (mv d)) pk = 0
  | [], _, _, _, _ => by simp [regE]
  | x :: rs, [], _, hl, _ => by simp at hl
  | x :: rs, p :: pk, h, hl, ht => by
    have h1 := ht x (List.mem_cons_self ..)
    unfold regE at h
    split at h
    · cases h
    · rename_i g1
      split at h
      · rename_i g2; cases h
      · rename_i g2
        have ih := regE_mv hd hT rs pk h (by simpa using hl) (fun y hy => ht y (List.mem_cons_of_mem _ hy))
        rw [List.map_cons]
        unfold regE mv
        rw [if_neg (by show ¬ (min (x.1 + d) x.2 < 0 ∨ 1024 < max (x.1 + d) x.2); omega), if_neg g2]
        exact ih
theorem plan_mv {ps : List Pr} {pk : List Int} {m : Nat} {rs : List Pr} {t d : Int} (hpk : pk.length = m) (hps : ∀ p ∈ ps, 0 ≤ p.1 ∧ p.1 < p.2 ∧ p.2 < m) (h : planE ps pk m rs t = 0) (hm : m ≠ 0) (hd : 0 ≤ d) (hdt : d ≤ 1024 - t) : planE ps pk m (rs.map (mv d)) (t + d) = 0 := by
  unfold planE at h ⊢
  split at h
  · cases h
  rename_i hl
  have hl : rs.length = m := by omega
  split at h
  · rename_i g; exact absurd h g
  rename_i hr
  have hr : regE rs pk = 0 := by omega
  split at h
  · cases h
  rename_i ht
  have ht : t = totalR rs := by omega
  split at h
  · cases h
  split at h
  · cases h
  rename_i hs
  have hok := regE_ok rs pk hr (by omega)
  have hin : ∀ x ∈ rs, InR x := fun x hx => by
    obtain ⟨i, hi, rfl⟩ := List.getElem_of_mem hx
    have := (hok i hi).1
    rwa [List.getD_eq_getElem?_getD, List.getElem?_eq_getElem hi] at this
  have hne : rs ≠ [] := fun e => by rw [e] at hl; exact hm hl.symm
  have htm : totalR (rs.map (mv d)) = t + d := by
    rw [total_mv hne (fun x hx => by obtain ⟨a, _, c, _⟩ := hin x hx; exact ⟨a, c⟩) hd, ← ht]
  rw [if_neg (by rw [List.length_map]; omega), if_neg (by rw [regE_mv (T := t) hd (by omega) rs pk hr (by omega) fun x hx => by rw [ht]; exact total_ge hx]; omega), if_neg (by omega), if_neg (by omega), if_neg]
  intro hq
  refine hs ?_
  rw [List.any_eq_true] at hq ⊢
  obtain ⟨p, hp, hh⟩ := hq
  refine ⟨p, hp, ?_⟩
  obtain ⟨p0, p1, p2⟩ := hps p hp
  unfold hitR at hh ⊢
  have e : ∀ z : Int, 0 ≤ z → z < m → (rs.map (mv d)).getD z.toNat (0, 0) = mv d (rs.getD z.toNat (0, 0)) := fun z z0 zm => by
    rw [List.getD_eq_getElem?_getD, List.getD_eq_getElem?_getD, List.getElem?_map, List.getElem?_eq_getElem (by omega)]
    rfl
  rw [e _ p0 (by omega), e _ (by omega) p2, share_mv] at hh
  exact hh
theorem check_mv {N : Int} {arcs : List Arc} {zs : List Int} {rs : List Pr} {t d : Int} (h : checkE N arcs zs rs t = 0) (hm : arcs.length ≠ 0) (hd : 0 ≤ d) (hdt : d ≤ 1024 - t) : checkE N arcs zs (rs.map (mv d)) (t + d) = 0 := by
  unfold checkE at h ⊢
  split at h
  · rename_i g; exact absurd h g
  · rename_i g
    rw [if_neg g]
    have hal : (along N arcs zs).1 = 0 := by
      refine Decidable.byContradiction fun q => ?_
      unfold lookE at g
      rw [if_pos q] at g
      omega
    obtain ⟨pks, _⟩ := look_peaks hal
    refine plan_mv pks.len (fun p hp => ?_) h hm hd hdt
    obtain ⟨i, j, rfl, a, b, _⟩ := pairs_mem.1 hp
    exact ⟨by show (0 : Int) ≤ (i : Int); omega, by show (i : Int) < (j : Int); omega, by show (j : Int) < _; omega⟩
theorem check_range {N : Int} {arcs : List Arc} {zs : List Int} {rs : List Pr} {t : Int} (h : checkE N arcs zs rs t = 0) : rs.length = arcs.length ∧ 0 ≤ t ∧ t ≤ 1024 ∧ ∀ x ∈ rs, InR x := by
  unfold checkE at h
  split at h
  · rename_i g; exact absurd h g
  · rename_i g
    have hal : (along N arcs zs).1 = 0 := by
      refine Decidable.byContradiction fun q => ?_
      unfold lookE at g
      rw [if_pos q] at g
      omega
    obtain ⟨pks, _⟩ := look_peaks hal
    have hpk := pks.len
    unfold planE at h
    split at h
    · cases h
    rename_i hl
    have hl : rs.length = arcs.length := by omega
    split at h
    · rename_i g; exact absurd h g
    rename_i hr
    split at h
    · cases h
    split at h
    · cases h
    have hok := regE_ok rs (maxes (along N arcs zs).2) (by omega) (by omega)
    refine ⟨hl, by have := total_pos rs; omega, by omega, fun x hx => ?_⟩
    obtain ⟨i, hi, rfl⟩ := List.getElem_of_mem hx
    have := (hok i hi).1
    rwa [List.getD_eq_getElem?_getD, List.getElem?_eq_getElem hi] at this
end Go.Sx
