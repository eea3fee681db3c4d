/- Layer 19: the stable sort's merge, place by place. Conditions: none. -/
import Derived.Test.YthibgmkobcbhhaaGreatM19S
import Derived.Test.YthibgmkobcbhhaaGreatM20B
namespace Go.Sx
open Go.Proofs Go.Sort
set_option maxRecDepth 100000
def SymX (h0 : Hp) (b : Nat) (tl : List Value) (q m cap : Nat) (pk : List Int) (N : Nat) : Prop := ∀ (P A B S : List Nat), (P ++ (A ++ (B ++ S))).length = m → (∀ x ∈ P ++ (A ++ (B ++ S)), x < m) → A ≠ [] → B ≠ [] → Up pk A → Up pk B → LtL A B → A.length + B.length < N → ∀ x y z : Int, x = (P.length : Nat) → y = x + (A.length : Nat) → z = y + (B.length : Nat) →
  Fn Tryz.prog 55 #[.slice (some ⟨b, 0, none⟩) m cap, iv x, iv y, iv z, fnP q] (hS h0 b tl (P ++ (A ++ (B ++ S)))) fun v h' => v = .tuple #[] ∧ ∃ M, Mrg pk A B M ∧ h' = hS h0 b tl (P ++ (M ++ S))
theorem br_ndec {c : Prop} [Decidable c] {x y : Prop} (t : ¬ c → x) (f : c → y) : br (!decide c) x y :=
  br_intro (fun h => t (by simpa using h)) (fun h => f (by simpa using h))
theorem len_ne {A : List Nat} (h : 0 < A.length) : A ≠ [] := fun e => by subst e; simp at h
theorem len_nil {A : List Nat} (h : ¬ 0 < A.length) : A = [] := List.eq_nil_of_length_eq_zero (by omega)
theorem symx_r3 (Q : Post) (e : Env) {h0 : Hp} {b : Nat} {tl : List Value} {q m cap N : Nat} {pk : List Int} (hI : SymX h0 b tl q m cap pk N) (P A B S : List Nat) (hos : (P ++ (A ++ (B ++ S))).length = m) (hx : ∀ x ∈ P ++ (A ++ (B ++ S)), x < m) (hA : Up pk A) (hB : Up pk B) (hAB : LtL A B) (hN : A.length + B.length < N) (bb mid en : Int) (h1 : mid = (P.length : Nat)) (h2 : en = mid + (A.length : Nat)) (h3 : bb = en + (B.length : Nat))
    (he : [0, 3, 4, 18, 24].map e = [.v (.slice (some ⟨b, 0, none⟩) m cap), .v (iv bb), .v (fnP q), .v (iv mid), .v (iv en)])
    (hQ : ∀ e M, Mrg pk A B M → Q .normal e [] (hS h0 b tl (P ++ (M ++ S)))) : wpIR Tryz.prog 220 sR3 Q e [] (hS h0 b tl (P ++ (A ++ (B ++ S)))) := by
  have hself := updL_self [0, 3, 4, 18, 24] e
  rw [he] at hself
  rw [← hself]
  conv => whnf
  refine br_dec (fun u => ?_) (fun u => ?_)
  · conv => whnf
    refine br_dec (fun u2 => ?_) (fun u2 => ?_)
    · conv => whnf
      refine .done (.mk _ (hI P A B S hos hx (len_ne (by omega)) (len_ne (by omega)) hA hB hAB hN mid en bb h1 h2 h3) ?_)
      rintro _ _ ⟨rfl, M, hM, rfl⟩
      conv => whnf
      exact hQ _ M hM
    · have : B = [] := len_nil (by omega)
      subst this
      conv => whnf
      exact hQ _ A (mrg_nil_right hA)
  · have : A = [] := len_nil (by omega)
    subst this
    conv => whnf
    exact hQ _ B (mrg_nil_left hB)
theorem symx_r2 (Q : Post) (e : Env) {h0 : Hp} {b : Nat} {tl : List Value} {q m cap N : Nat} {pk : List Int} (hI : SymX h0 b tl q m cap pk N) (P A B R : List Nat) (hos : (P ++ (A ++ (B ++ R))).length = m) (hx : ∀ x ∈ P ++ (A ++ (B ++ R)), x < m) (hA : Up pk A) (hB : Up pk B) (hAB : LtL A B) (hN : A.length + B.length < N) (a bb mid s en : Int) (h1 : a = (P.length : Nat)) (h2 : s = a + (A.length : Nat)) (h3 : mid = s + (B.length : Nat))
    (he : [0, 1, 3, 4, 18, 20, 24].map e = [.v (.slice (some ⟨b, 0, none⟩) m cap), .v (iv a), .v (iv bb), .v (fnP q), .v (iv mid), .v (iv s), .v (iv en)])
    (hQ : ∀ e M, Mrg pk A B M → [0, 3, 4, 18, 24].map e = [.v (.slice (some ⟨b, 0, none⟩) m cap), .v (iv bb), .v (fnP q), .v (iv mid), .v (iv en)] → wpIR Tryz.prog 220 sR3 Q e [] (hS h0 b tl (P ++ (M ++ R)))) : wpIR Tryz.prog 220 sR2 Q e [] (hS h0 b tl (P ++ (A ++ (B ++ R)))) := by
  have hself := updL_self [0, 1, 3, 4, 18, 20, 24] e
  rw [he] at hself
  rw [← hself]
  unfold sR2
  generalize hc : sR3 = c3 at hQ
  conv => whnf
  refine br_dec (fun u => ?_) (fun u => ?_)
  · conv => whnf
    refine br_dec (fun u2 => ?_) (fun u2 => ?_)
    · conv => whnf
      refine .done (.mk _ (hI P A B R hos hx (len_ne (by omega)) (len_ne (by omega)) hA hB hAB hN a s mid h1 h2 h3) ?_)
      rintro _ _ ⟨rfl, M, hM, rfl⟩
      conv => whnf
      show wpIR Tryz.prog 220 c3 Q _ [] _
      exact hQ _ M hM rfl
    · have : B = [] := len_nil (by omega)
      subst this
      conv => whnf
      show wpIR Tryz.prog 220 c3 Q _ [] _
      exact hQ _ A (mrg_nil_right hA) rfl
  · have : A = [] := len_nil (by omega)
    subst this
    conv => whnf
    show wpIR Tryz.prog 220 c3 Q _ [] _
    exact hQ _ B (mrg_nil_left hB) rfl
theorem symx_c40 (Q : Post) (e : Env) {h0 : Hp} {b : Nat} {tl : List Value} {q m cap : Nat} (hm : m ≤ 1000000) (P A B S : List Nat) (hos : (P ++ (A ++ (B ++ S))).length = m) (a mm bb mid s en : Int) (h1 : s = (P.length : Nat)) (h2 : mm = s + (A.length : Nat)) (h3 : en = mm + (B.length : Nat))
    (he : [0, 1, 2, 3, 4, 18, 20, 24].map e = [.v (.slice (some ⟨b, 0, none⟩) m cap), .v (iv a), .v (iv mm), .v (iv bb), .v (fnP q), .v (iv mid), .v (iv s), .v (iv en)])
    (hQ : ∀ e, [0, 1, 3, 4, 18, 20, 24].map e = [.v (.slice (some ⟨b, 0, none⟩) m cap), .v (iv a), .v (iv bb), .v (fnP q), .v (iv mid), .v (iv s), .v (iv en)] → Q .normal e [] (hS h0 b tl (P ++ (B ++ (A ++ S))))) : wpIR Tryz.prog 220 (.seq (.reg ir55_r40) (.cond (.t 185) (.reg ir55_r41) .skip)) Q e [] (hS h0 b tl (P ++ (A ++ (B ++ S)))) := by
  have hself := updL_self [0, 1, 2, 3, 4, 18, 20, 24] e
  rw [he] at hself
  rw [← hself]
  conv => whnf
  refine br_dec (fun u => ?_) (fun u => ?_)
  · conv => whnf
    refine br_dec (fun u2 => ?_) (fun u2 => ?_)
    · conv => whnf
      refine .done (.mk _ (rot97x hm P A B S (len_ne (by omega)) (len_ne (by omega)) hos s mm en h1 h2 h3) ?_)
      rintro _ _ ⟨rfl, rfl⟩
      conv => whnf
      exact hQ _ rfl
    · have : B = [] := len_nil (by omega)
      subst this
      conv => whnf
      exact hQ _ rfl
  · have : A = [] := len_nil (by omega)
    subst this
    conv => whnf
    exact hQ _ rfl
theorem take_last {A : List Nat} {k : Nat} (h : A.take k ≠ []) (hk : k ≤ A.length) : (A.take k).getLast h = A.getD (k - 1) 0 := by
  have h0 : 0 < (A.take k).length := List.length_pos_iff.2 h
  rw [List.length_take] at h0
  rw [List.getLast_eq_getElem, List.getElem_take, List.getD_eq_getElem?_getD, List.getElem?_eq_getElem (by omega), Option.getD_some]
  congr 1
  rw [List.length_take]
  omega
theorem drop_head {A : List Nat} {k : Nat} (h : A.drop k ≠ []) : (A.drop k).head h = A.getD k 0 := by
  have h0 : 0 < (A.drop k).length := List.length_pos_iff.2 h
  rw [List.length_drop] at h0
  rw [List.head_eq_getElem, List.getElem_drop, List.getD_eq_getElem?_getD, List.getElem?_eq_getElem (by omega), Option.getD_some]
  rfl
theorem symx_r1 (Q : Post) (e : Env) {h0 : Hp} {b : Nat} {tl : List Value} {q m cap N : Nat} {pk : List Int} (hm : m ≤ 1000000) (hI : SymX h0 b tl q m cap pk N) (P A1 A2 B1 B2 S : List Nat) (hos : (P ++ ((A1 ++ A2) ++ ((B1 ++ B2) ++ S))).length = m) (hx : ∀ x ∈ P ++ ((A1 ++ A2) ++ ((B1 ++ B2) ++ S)), x < m) (hA : Up pk (A1 ++ A2)) (hB : Up pk (B1 ++ B2)) (hAB : LtL (A1 ++ A2) (B1 ++ B2)) (x1 : ∀ a ∈ A1, ∀ b ∈ B2, TB pk a b) (x2 : ∀ b ∈ B1, ∀ a ∈ A2, TB pk b a) (hN1 : A1.length + B1.length < N) (hN2 : A2.length + B2.length < N) (a mm bb mid n s : Int)
    (h1 : a = (P.length : Nat)) (h2 : s = a + (A1.length : Nat)) (h3 : mm = s + (A2.length : Nat)) (h4 : n - s = mm + (B1.length : Nat)) (h5 : bb = n - s + (B2.length : Nat)) (h6 : n = mid + mm)
    (he : [0, 1, 2, 3, 4, 18, 19, 20].map e = [.v (.slice (some ⟨b, 0, none⟩) m cap), .v (iv a), .v (iv mm), .v (iv bb), .v (fnP q), .v (iv mid), .v (iv n), .v (iv s)])
    (hQ : ∀ e M, Mrg pk (A1 ++ A2) (B1 ++ B2) M → Q .normal e [] (hS h0 b tl (P ++ (M ++ S)))) : wpIR Tryz.prog 220 sR1 Q e [] (hS h0 b tl (P ++ ((A1 ++ A2) ++ ((B1 ++ B2) ++ S)))) := by
  have hlen := hos
  simp only [List.length_append] at hlen
  refine sym_c39 (fun ex e L h => match ex with | .normal => wpIR Tryz.prog 220 sR1b Q e L h | ex => Q ex e L h) e _ a mm bb mid n s (by omega) (by omega) (by omega) (by omega) he fun e1 he1 => ?_
  have e0 : P ++ ((A1 ++ A2) ++ ((B1 ++ B2) ++ S)) = (P ++ A1) ++ (A2 ++ (B1 ++ (B2 ++ S))) := by simp [List.append_assoc]
  rw [e0] at hos hx ⊢
  refine symx_c40 (fun ex e L h => match ex with | .normal => wpIR Tryz.prog 220 sR2 Q e L h | ex => Q ex e L h) e1 hm (P ++ A1) A2 B1 (B2 ++ S) hos a mm bb mid s (n - s) (by rw [List.length_append]; omega) h3 h4 he1 fun e2 he2 => ?_
  have e3 : (P ++ A1) ++ (B1 ++ (A2 ++ (B2 ++ S))) = P ++ (A1 ++ (B1 ++ (A2 ++ (B2 ++ S)))) := by simp [List.append_assoc]
  have hx3 : ∀ x ∈ P ++ (A1 ++ (B1 ++ (A2 ++ (B2 ++ S)))), x < m := fun x hxx => hx x (by
    simp only [List.mem_append] at hxx ⊢
    rcases hxx with h | h | h | h | h | h <;> simp [h])
  rw [e3]
  refine symx_r2 Q e2 hI P A1 B1 (A2 ++ (B2 ++ S)) (by simp only [List.length_append]; omega) hx3 (up_app.1 hA).1 (up_app.1 hB).1 (fun x hx y hy => hAB x (List.mem_append_left _ hx) y (List.mem_append_left _ hy)) hN1 a bb mid s (n - s) h1 h2 (by omega) he2 fun e4 M1 m1 he4 => ?_
  have e5 : P ++ (M1 ++ (A2 ++ (B2 ++ S))) = (P ++ M1) ++ (A2 ++ (B2 ++ S)) := by simp [List.append_assoc]
  have ml := m1.perm.length_eq
  rw [List.length_append] at ml
  rw [e5]
  refine symx_r3 Q e4 hI (P ++ M1) A2 B2 S (by simp only [List.length_append]; omega) (fun x hxx => hx3 x (by
    simp only [List.mem_append, m1.perm.mem_iff] at hxx ⊢
    rcases hxx with (h | h | h) | h | h | h <;> simp [h])) (up_app.1 hA).2.1 (up_app.1 hB).2.1 (fun x hx y hy => hAB x (List.mem_append_right _ hx) y (List.mem_append_right _ hy)) hN2 bb mid (n - s) (by rw [List.length_append]; omega) (by omega) (by omega) he4 fun e6 M2 m2 => ?_
  have := hQ e6 (M1 ++ M2) (mrg_both hA hB m1 m2 x1 x2)
  rw [show (P ++ M1) ++ (M2 ++ S) = P ++ ((M1 ++ M2) ++ S) from by simp [List.append_assoc]]
  exact this
theorem symx_r0 (Q : Post) (e : Env) {h0 : Hp} {b : Nat} {tl : List Value} {q m cap N : Nat} {X F : Option Addr} {k c d : Nat} {pk : List Int} (hm : m ≤ 1000000) (hF : ∀ ys, Facts (hS h0 b tl ys) q X F k c m d pk) (hI : SymX h0 b tl q m cap pk N) (P A B S : List Nat) (hos : (P ++ (A ++ (B ++ S))).length = m) (hx : ∀ x ∈ P ++ (A ++ (B ++ S)), x < m) (hA : Up pk A) (hB : Up pk B) (hAB : LtL A B) (hN : A.length + B.length < N + 1) (a mm bb mid n S0 R0 : Int)
    (h1 : a = (P.length : Nat)) (h2 : mm = a + (A.length : Nat)) (h3 : bb = mm + (B.length : Nat)) (h6 : n = mid + mm) (hmd : 2 * mid ≤ a + bb) (hmd2 : a + bb ≤ 2 * mid + 1) (hA2 : 2 ≤ A.length) (hB2 : 2 ≤ B.length)
    (hS : (mid < mm ∧ S0 = n - bb ∧ R0 = mid) ∨ (mm ≤ mid ∧ S0 = a ∧ R0 = mm))
    (he : [0, 1, 2, 3, 4, 18, 19, 20, 21].map e = [.v (.slice (some ⟨b, 0, none⟩) m cap), .v (iv a), .v (iv mm), .v (iv bb), .v (fnP q), .v (iv mid), .v (iv n), .v (iv S0), .v (iv R0)])
    (hQ : ∀ e M, Mrg pk A B M → Q .normal e [] (Sx.hS h0 b tl (P ++ (M ++ S)))) : wpIR Tryz.prog 220 sR0 Q e [] (Sx.hS h0 b tl (P ++ (A ++ (B ++ S)))) := by
  have hself := updL_self [0, 1, 2, 3, 4, 18, 19, 20, 21] e
  rw [he] at hself
  rw [← hself]
  have hlen := hos
  simp only [List.length_append] at hlen
  have hSa : a ≤ S0 ∧ n - bb ≤ S0 ∧ R0 ≤ mm ∧ R0 ≤ mid := by omega
  obtain ⟨hS1, hS2, hS3, hS4⟩ := hSa
  obtain ⟨os, ho⟩ : ∃ os, os = P ++ (A ++ (B ++ S)) := ⟨_, rfl⟩
  have ho2 : os = (P ++ A) ++ (B ++ S) := by rw [ho, List.append_assoc]
  rw [← ho] at hos hx ⊢
  unfold sR0
  generalize hc : sR1 = c3
  conv => whnf
  refine .ok (by omega) (by omega) ?_
  conv => whnf
  refine .mk (Int × Int) [0, 1, 2, 3, 4, 18, 19, 20, 21, 22] (fun (s, r) => [.v (.slice (some ⟨b, 0, none⟩) m cap), .v (iv a), .v (iv mm), .v (iv bb), .v (fnP q), .v (iv mid), .v (iv n), .v (iv s), .v (iv r), .v (iv (n - 1))]) (fun _ => [])
    (fun (s, r) h' => (S0 ≤ s ∧ s ≤ r ∧ r ≤ R0 ∧ (s = S0 ∨ TB pk (A.getD (s - 1 - a).toNat 0) (B.getD (n - s - mm).toNat 0)) ∧ (r = R0 ∨ TB pk (B.getD (n - 1 - r - mm).toNat 0) (A.getD (r - a).toNat 0))) ∧ h' = Sx.hS h0 b tl os) (fun (s, r) => (r - s).toNat) (S0, R0) (fun (_, _) => rfl) ⟨⟨by omega, by omega, by omega, .inl rfl, .inl rfl⟩, rfl⟩ rfl rfl ?_
  rintro ⟨s, r⟩ e2 h2' ⟨⟨hs, hsr, hr, i1, i2⟩, rfl⟩
  conv => whnf
  refine br_dec (fun u => ?_) (fun u => ?_)
  · have hd := fdiv2 (s + r)
    conv => whnf
    refine .ok (by omega) (by omega) ?_
    conv => whnf
    refine .mk (by omega) (by omega) ?_
    conv => whnf
    refine .mk (by omega) (by omega) ?_
    conv => whnf
    generalize (s + r).fdiv 2 = z at hd ⊢
    have gA : os[z.toNat]'(by omega) = A[(z - a).toNat]'(by omega) := get_mid ho (by omega) (by omega) _
    have gB : os[(n - 1 - z).toNat]'(by omega) = B[(n - 1 - z - mm).toNat]'(by omega) := get_mid ho2 (by rw [List.length_append]; omega) (by omega) _
    have lt := hAB _ (List.getElem_mem (show (z - a).toNat < A.length by omega)) _ (List.getElem_mem (show (n - 1 - z - mm).toNat < B.length by omega))
    have dA : A.getD (z - a).toNat 0 = A[(z - a).toNat]'(by omega) := by rw [List.getD_eq_getElem?_getD, List.getElem?_eq_getElem (by omega)]; rfl
    have dB : B.getD (n - 1 - z - mm).toNat 0 = B[(n - 1 - z - mm).toNat]'(by omega) := by rw [List.getD_eq_getElem?_getD, List.getElem?_eq_getElem (by omega)]; rfl
    conv => whnf
    refine .ok (by omega) (by omega) ?_
    conv => whnf
    refine .mk _ rfl (by omega) (by omega) ?_
    conv => whnf
    refine .hp _ (ldS (j := (n - 1 - z).toNat) (by omega) (by omega)) ?_
    conv => whnf
    refine .mk _ rfl (by omega) (by omega) ?_
    conv => whnf
    refine .hp _ (ldS (j := z.toNat) (by omega) (by omega)) ?_
    conv => whnf
    refine .mk _ (place37 (hF os) hm (hx _ (List.getElem_mem _)) (hx _ (List.getElem_mem _))) ?_ ?_
    · rintro _ _ ⟨rfl, rfl⟩; exact Hp.le_refl _
    rintro _ _ ⟨rfl, rfl⟩
    rw [gA, gB]
    have cn := @cmp_neg (pk.getD (A[(z - a).toNat]'(by omega)) 0) (pk.getD (B[(n - 1 - z - mm).toNat]'(by omega)) 0)
    conv => whnf
    refine br_ndec (fun u2 => ?_) (fun u2 => ?_)
    · conv => whnf
      refine .ok (by omega) (by omega) ?_
      conv => whnf
      refine ⟨(z + 1, r), rfl, rfl, ⟨⟨by omega, by omega, hr, .inr ?_, i2⟩, rfl⟩, by show (r - (z + 1)).toNat < (r - s).toNat; omega⟩
      rw [show z + 1 - 1 - a = z - a by omega, show n - (z + 1) - mm = n - 1 - z - mm by omega, dA, dB]
      unfold TB
      omega
    · conv => whnf
      refine ⟨(s, z), rfl, rfl, ⟨⟨hs, by omega, by omega, i1, .inr ?_⟩, rfl⟩, by show (z - s).toNat < (r - s).toNat; omega⟩
      rw [dA, dB]
      unfold TB
      omega
  · obtain rfl : s = r := by omega
    conv => whnf
    show wpIR Tryz.prog 220 c3 Q _ [] _
    subst hc
    have hA' := List.take_append_drop (s - a).toNat A
    have hB' := List.take_append_drop (n - s - mm).toNat B
    obtain ⟨A1, hA1⟩ : ∃ l, l = A.take (s - a).toNat := ⟨_, rfl⟩
    obtain ⟨A2, hA2⟩ : ∃ l, l = A.drop (s - a).toNat := ⟨_, rfl⟩
    obtain ⟨B1, hB1⟩ : ∃ l, l = B.take (n - s - mm).toNat := ⟨_, rfl⟩
    obtain ⟨B2, hB2⟩ : ∃ l, l = B.drop (n - s - mm).toNat := ⟨_, rfl⟩
    have lA1 : A1.length = (s - a).toNat := by rw [hA1, List.length_take]; omega
    have lA2 : A2.length = A.length - (s - a).toNat := by rw [hA2, List.length_drop]
    have lB1 : B1.length = (n - s - mm).toNat := by rw [hB1, List.length_take]; omega
    have lB2 : B2.length = B.length - (n - s - mm).toNat := by rw [hB2, List.length_drop]
    have x1 : (hA0 : A1 ≠ []) → (hB0 : B2 ≠ []) → TB pk (A1.getLast hA0) (B2.head hB0) := fun hA0 hB0 => by
      have p1 := List.length_pos_iff.2 hA0
      have p2 := List.length_pos_iff.2 hB0
      subst hA1; subst hB2
      rw [take_last _ (by omega), drop_head]
      rcases i1 with i1 | i1
      · omega
      · rw [show (s - a).toNat - 1 = (s - 1 - a).toNat by omega]; exact i1
    have x2 : (hB0 : B1 ≠ []) → (hA0 : A2 ≠ []) → TB pk (B1.getLast hB0) (A2.head hA0) := fun hB0 hA0 => by
      have p1 := List.length_pos_iff.2 hA0
      have p2 := List.length_pos_iff.2 hB0
      subst hA2; subst hB1
      rw [take_last _ (by omega), drop_head]
      rcases i2 with i2 | i2
      · omega
      · rw [show (n - s - mm).toNat - 1 = (n - 1 - s - mm).toNat by omega]; exact i2
    clear i1 i2 hS
    have hN1 : A1.length + B1.length < N := by omega
    have hN2 : A2.length + B2.length < N := by omega
    have q2 : s = a + (A1.length : Nat) := by omega
    have q3 : mm = s + (A2.length : Nat) := by omega
    have q4 : n - s = mm + (B1.length : Nat) := by omega
    have q5 : bb = n - s + (B2.length : Nat) := by omega
    rw [← hA1, ← hA2] at hA'
    rw [← hB1, ← hB2] at hB'
    rw [← hA'] at hA hAB
    rw [← hB'] at hB hAB
    rw [ho]
    rw [ho] at hos hx
    rw [← hA', ← hB'] at hos hx hQ ⊢
    exact symx_r1 Q _ hm hI P A1 A2 B1 B2 S hos hx hA hB hAB (up_join (up_app.1 hA).1 (up_app.1 hB).2.1 x1) (up_join (up_app.1 hB).1 (up_app.1 hA).2.1 x2) hN1 hN2 a mm bb mid n s h1 q2 q3 q4 q5 h6 rfl hQ
end Go.Sx
namespace Go.Sx
open Go.Proofs Go.Sort
set_option maxRecDepth 100000
theorem up_mono {pk : List Int} {B : List Nat} (h : Up pk B) : ∀ t1 t2 (h1 : t1 < B.length) (h2 : t2 < B.length), t1 ≤ t2 → pk.getD B[t2] 0 ≤ pk.getD B[t1] 0 := fun t1 t2 h1 h2 hle => by
  rcases Nat.lt_or_eq_of_le hle with q | q
  · have := List.pairwise_iff_getElem.1 h t1 t2 h1 h2 q
    unfold TB at this
    omega
  · subst q; exact Int.le_refl _
theorem symx_A (Q : Post) (e : Env) {h0 : Hp} {b : Nat} {tl : List Value} {q m cap : Nat} {X F : Option Addr} {k c d : Nat} {pk : List Int} (hm : m ≤ 1000000) (hF : ∀ ys, Facts (hS h0 b tl ys) q X F k c m d pk) (P A B S : List Nat) (hos : (P ++ (A ++ (B ++ S))).length = m) (hx : ∀ x ∈ P ++ (A ++ (B ++ S)), x < m) (hA0 : 0 < A.length) (hB0 : 0 < B.length) (hB : Up pk B) (hAB : LtL A B) (x y z : Int) (h1 : x = (P.length : Nat)) (h2 : y = x + (A.length : Nat)) (h3 : z = y + (B.length : Nat))
    (he : [0, 1, 2, 3, 4].map e = [.v (.slice (some ⟨b, 0, none⟩) m cap), .v (iv x), .v (iv y), .v (iv z), .v (fnP q)]) (hR : ∀ e M, Mrg pk A B M → Q .ret e [] (hS h0 b tl (P ++ (M ++ S)))) (hN : ∀ e, [0, 1, 2, 3, 4].map e = [.v (.slice (some ⟨b, 0, none⟩) m cap), .v (iv x), .v (iv y), .v (iv z), .v (fnP q)] → 2 ≤ A.length → Q .normal e [] (hS h0 b tl (P ++ (A ++ (B ++ S))))) :
    wpIR Tryz.prog 220 sA Q e [] (hS h0 b tl (P ++ (A ++ (B ++ S)))) := by
  have hself := updL_self [0, 1, 2, 3, 4] e
  rw [he] at hself
  rw [← hself]
  have hlen := hos
  simp only [List.length_append] at hlen
  conv => whnf
  refine .ok (by omega) (by omega) ?_
  conv => whnf
  refine br_dec (fun u => ?_) (fun u => ?_)
  · have hmono := up_mono hB
    obtain ⟨a0, rfl⟩ : ∃ a0, A = [a0] := List.length_eq_one_iff.1 (by omega)
    obtain ⟨os, ho⟩ : ∃ os, os = P ++ ([a0] ++ (B ++ S)) := ⟨_, rfl⟩
    have ho2 : os = (P ++ [a0]) ++ (B ++ S) := by rw [ho, List.append_assoc]
    rw [← ho] at hos hx ⊢
    have gA : os[x.toNat]'(by omega) = a0 := get_fst P a0 (B ++ S) ho (by omega) _
    conv => whnf
    refine .mk (Int × Int) [0, 1, 4, 10, 11] (fun (i, j) => [.v (.slice (some ⟨b, 0, none⟩) m cap), .v (iv x), .v (fnP q), .v (iv i), .v (iv j)]) (fun _ => []) (fun (i, j) h' => (y ≤ i ∧ i ≤ j ∧ j ≤ z ∧ (∀ t (h : t < B.length), (t : Int) < i - y → pk.getD a0 0 < pk.getD B[t] 0) ∧ (∀ t (h : t < B.length), j - y ≤ (t : Int) → pk.getD B[t] 0 ≤ pk.getD a0 0)) ∧ h' = hS h0 b tl os) (fun (i, j) => (j - i).toNat) (y, z) (fun (_, _) => rfl) ⟨⟨by omega, by omega, by omega, fun t h q => by omega, fun t h q => by omega⟩, rfl⟩ rfl rfl ?_
    rintro ⟨i, j⟩ e2 h2' ⟨⟨hi, hij, hj, i1, i2⟩, rfl⟩
    conv => whnf
    refine br_dec (fun u2 => ?_) (fun u2 => ?_)
    · have hd := fdiv2 (i + j)
      conv => whnf
      refine .ok (by omega) (by omega) ?_
      conv => whnf
      refine .mk (by omega) (by omega) ?_
      conv => whnf
      refine .mk (by omega) (by omega) ?_
      conv => whnf
      generalize (i + j).fdiv 2 = t at hd ⊢
      have gB : os[t.toNat]'(by omega) = B[(t - y).toNat]'(by omega) := get_mid ho2 (by rw [List.length_append]; omega) (by omega) _
      conv => whnf
      refine .mk _ rfl (by omega) (by omega) ?_
      conv => whnf
      refine .hp _ (ldS (j := t.toNat) (by omega) (by omega)) ?_
      conv => whnf
      refine .mk _ rfl (by omega) (by omega) ?_
      conv => whnf
      refine .hp _ (ldS (j := x.toNat) (by omega) (by omega)) ?_
      conv => whnf
      refine .mk _ (place37 (hF os) hm (hx _ (List.getElem_mem _)) (hx _ (List.getElem_mem _))) ?_ ?_
      · rintro _ _ ⟨rfl, rfl⟩; exact Hp.le_refl _
      rintro _ _ ⟨rfl, rfl⟩
      rw [gA, gB]
      have cn := @cmp_neg (pk.getD a0 0) (pk.getD (B[(t - y).toNat]'(by omega)) 0)
      conv => whnf
      refine br_dec (fun u5 => ?_) (fun u5 => ?_)
      · conv => whnf
        refine .ok (by omega) (by omega) ?_
        conv => whnf
        refine ⟨(t + 1, j), rfl, rfl, ⟨⟨by omega, by omega, hj, fun w hw q => ?_, i2⟩, rfl⟩, by show (j - (t + 1)).toNat < (j - i).toNat; omega⟩
        have := hmono w (t - y).toNat hw (by omega) (by omega)
        omega
      · conv => whnf
        refine ⟨(i, t), rfl, rfl, ⟨⟨hi, by omega, by omega, i1, fun w hw q => ?_⟩, rfl⟩, by show (t - i).toNat < (j - i).toNat; omega⟩
        have := hmono (t - y).toNat w (by omega) hw (by omega)
        omega
    · obtain rfl : i = j := by omega
      obtain ⟨n, hn⟩ : ∃ n : Nat, i = y + (n : Nat) := ⟨(i - y).toNat, by omega⟩
      conv => whnf
      refine .mk (Int × Nat × List Nat) [0, 10, 13] (fun (w, _) => [.v (.slice (some ⟨b, 0, none⟩) m cap), .v (iv i), .v (iv w)]) (fun _ => []) (fun (w, t, ys) h' => (w = x + (t : Nat) ∧ t ≤ n ∧ ys = (P ++ B.take t) ++ a0 :: (B.drop t ++ S)) ∧ h' = hS h0 b tl ys) (fun (w, _, _) => (i - w).toNat) (x, 0, os) (fun (_, _, _) => rfl) ⟨⟨by omega, by omega, by rw [ho]; simp⟩, rfl⟩ rfl rfl ?_
      rintro ⟨w, t, ys⟩ e3 h3' ⟨⟨hw, htn, hys⟩, rfl⟩
      have hyl : ys.length = m := by rw [hys]; simp only [List.length_append, List.length_cons, List.length_take, List.length_drop]; simp only [List.length_cons, List.length_nil] at hlen h2; omega
      conv => whnf
      refine .ok (by omega) (by omega) ?_
      conv => whnf
      refine br_dec (fun u3 => ?_) (fun u3 => ?_)
      · obtain ⟨w, rfl⟩ := Int.eq_ofNat_of_zero_le (show 0 ≤ w by omega)
        simp only [List.length_cons, List.length_nil] at h2
        have htB : t < B.length := by omega
        have dB : B.drop t = B[t]'htB :: B.drop (t + 1) := List.drop_eq_getElem_cons (by omega)
        have tB : B.take (t + 1) = B.take t ++ [B[t]'htB] := by rw [List.take_add_one, List.getElem?_eq_getElem (by omega)]; rfl
        have hys2 : ys = (P ++ B.take t) ++ a0 :: ([] ++ B[t]'htB :: (B.drop (t + 1) ++ S)) := by rw [hys, dB]; rfl
        have hl1 : (P ++ B.take t).length = w := by simp only [List.length_append, List.length_take]; omega
        have g1 : ys[w]'(by omega) = a0 := get_fst _ _ _ hys (by rw [hl1]) _
        have g2 : ys[w + 1]'(by omega) = B[t]'htB := get_fst ((P ++ B.take t) ++ [a0]) _ (B.drop (t + 1) ++ S) (by rw [hys2]; simp) (by rw [List.length_append, hl1]; rfl) _
        have sw := swp_two _ _ _ a0 (B[t]'htB) w (w + 1) (by rw [hl1]) (by rw [hl1]; rfl) ys hys2
        conv => whnf
        refine .ok (by omega) (by omega) ?_
        conv => whnf
        refine .ok (by omega) (by omega) ?_
        conv => whnf
        refine .mk _ rfl (by omega) (by omega) ?_
        conv => whnf
        refine .hp _ (ldS (j := w + 1) (by omega) (by omega)) ?_
        conv => whnf
        refine .mk _ rfl (by omega) (by omega) ?_
        conv => whnf
        refine .hp _ (ldS (j := w) (by omega) (by omega)) ?_
        conv => whnf
        refine .mk _ rfl (by omega) (by omega) ?_
        conv => whnf
        refine stS (j := w) (v := ys[w + 1]) (by omega) (by omega) ?_
        conv => whnf
        refine .mk _ rfl (by omega) (by omega) ?_
        conv => whnf
        refine stS (j := w + 1) (v := ys[w]) (by omega) (by simp; omega) ?_
        rw [g1, g2, sw]
        conv => whnf
        refine .ok (by omega) (by omega) ?_
        conv => whnf
        refine ⟨((w : Int) + 1, t + 1, _), rfl, rfl, ⟨⟨by omega, by omega, ?_⟩, rfl⟩, by show (i - ((w : Int) + 1)).toNat < (i - (w : Int)).toNat; omega⟩
        rw [tB]; simp only [List.append_assoc, List.cons_append, List.nil_append]
      · simp only [List.length_cons, List.length_nil] at h2
        obtain rfl : t = n := by omega
        conv => whnf
        rw [hys, show (P ++ B.take t) ++ a0 :: (B.drop t ++ S) = P ++ ((B.take t ++ a0 :: B.drop t) ++ S) from by simp [List.append_assoc]]
        exact hR _ _ (mrg_left (by omega) hB hAB (fun w hw q => i1 w hw (by omega)) (fun w hw q => i2 w hw (by omega)))
  · conv => whnf
    exact hN _ rfl (by omega)
theorem symx_B (Q : Post) (e : Env) {h0 : Hp} {b : Nat} {tl : List Value} {q m cap : Nat} {X F : Option Addr} {k c d : Nat} {pk : List Int} (hm : m ≤ 1000000) (hF : ∀ ys, Facts (hS h0 b tl ys) q X F k c m d pk) (P A B S : List Nat) (hos : (P ++ (A ++ (B ++ S))).length = m) (hx : ∀ x ∈ P ++ (A ++ (B ++ S)), x < m) (hA0 : 0 < A.length) (hB0 : 0 < B.length) (hA : Up pk A) (hAB : LtL A B) (x y z : Int) (h1 : x = (P.length : Nat)) (h2 : y = x + (A.length : Nat)) (h3 : z = y + (B.length : Nat))
    (he : [0, 1, 2, 3, 4].map e = [.v (.slice (some ⟨b, 0, none⟩) m cap), .v (iv x), .v (iv y), .v (iv z), .v (fnP q)]) (hR : ∀ e M, Mrg pk A B M → Q .ret e [] (hS h0 b tl (P ++ (M ++ S)))) (hN : ∀ e, [0, 1, 2, 3, 4].map e = [.v (.slice (some ⟨b, 0, none⟩) m cap), .v (iv x), .v (iv y), .v (iv z), .v (fnP q)] → 2 ≤ B.length → Q .normal e [] (hS h0 b tl (P ++ (A ++ (B ++ S))))) :
    wpIR Tryz.prog 220 sB Q e [] (hS h0 b tl (P ++ (A ++ (B ++ S)))) := by
  have hself := updL_self [0, 1, 2, 3, 4] e
  rw [he] at hself
  rw [← hself]
  have hlen := hos
  simp only [List.length_append] at hlen
  conv => whnf
  refine .ok (by omega) (by omega) ?_
  conv => whnf
  refine br_dec (fun u => ?_) (fun u => ?_)
  · have hmono := up_mono hA
    obtain ⟨b0, rfl⟩ : ∃ b0, B = [b0] := List.length_eq_one_iff.1 (by omega)
    simp only [List.length_cons, List.length_nil] at h3 hlen
    obtain ⟨os, ho⟩ : ∃ os, os = P ++ (A ++ ([b0] ++ S)) := ⟨_, rfl⟩
    rw [← ho] at hos hx ⊢
    have gB : os[y.toNat]'(by omega) = b0 := get_fst (P ++ A) b0 S (by rw [ho]; simp) (by rw [List.length_append]; omega) _
    conv => whnf
    refine .mk (Int × Int) [0, 2, 4, 14, 15] (fun (i, j) => [.v (.slice (some ⟨b, 0, none⟩) m cap), .v (iv y), .v (fnP q), .v (iv i), .v (iv j)]) (fun _ => []) (fun (i, j) h' => (x ≤ i ∧ i ≤ j ∧ j ≤ y ∧ (∀ t (h : t < A.length), (t : Int) < i - x → pk.getD b0 0 ≤ pk.getD A[t] 0) ∧ (∀ t (h : t < A.length), j - x ≤ (t : Int) → pk.getD A[t] 0 < pk.getD b0 0)) ∧ h' = hS h0 b tl os) (fun (i, j) => (j - i).toNat) (x, y) (fun (_, _) => rfl) ⟨⟨by omega, by omega, by omega, fun t h q => by omega, fun t h q => by omega⟩, rfl⟩ rfl rfl ?_
    rintro ⟨i, j⟩ e2 h2' ⟨⟨hi, hij, hj, i1, i2⟩, rfl⟩
    conv => whnf
    refine br_dec (fun u2 => ?_) (fun u2 => ?_)
    · have hd := fdiv2 (i + j)
      conv => whnf
      refine .ok (by omega) (by omega) ?_
      conv => whnf
      refine .mk (by omega) (by omega) ?_
      conv => whnf
      refine .mk (by omega) (by omega) ?_
      conv => whnf
      generalize (i + j).fdiv 2 = t at hd ⊢
      have gA : os[t.toNat]'(by omega) = A[(t - x).toNat]'(by omega) := get_mid ho (by omega) (by omega) _
      conv => whnf
      refine .mk _ rfl (by omega) (by omega) ?_
      conv => whnf
      refine .hp _ (ldS (j := y.toNat) (by omega) (by omega)) ?_
      conv => whnf
      refine .mk _ rfl (by omega) (by omega) ?_
      conv => whnf
      refine .hp _ (ldS (j := t.toNat) (by omega) (by omega)) ?_
      conv => whnf
      refine .mk _ (place37 (hF os) hm (hx _ (List.getElem_mem _)) (hx _ (List.getElem_mem _))) ?_ ?_
      · rintro _ _ ⟨rfl, rfl⟩; exact Hp.le_refl _
      rintro _ _ ⟨rfl, rfl⟩
      rw [gA, gB]
      have cn := @cmp_neg (pk.getD (A[(t - x).toNat]'(by omega)) 0) (pk.getD b0 0)
      conv => whnf
      refine br_ndec (fun u5 => ?_) (fun u5 => ?_)
      · conv => whnf
        refine .ok (by omega) (by omega) ?_
        conv => whnf
        refine ⟨(t + 1, j), rfl, rfl, ⟨⟨by omega, by omega, hj, fun w hw q => ?_, i2⟩, rfl⟩, by show (j - (t + 1)).toNat < (j - i).toNat; omega⟩
        have := hmono w (t - x).toNat hw (by omega) (by omega)
        omega
      · conv => whnf
        refine ⟨(i, t), rfl, rfl, ⟨⟨hi, by omega, by omega, i1, fun w hw q => ?_⟩, rfl⟩, by show (t - i).toNat < (j - i).toNat; omega⟩
        have := hmono (t - x).toNat w (by omega) hw (by omega)
        omega
    · obtain rfl : i = j := by omega
      obtain ⟨n, hn⟩ : ∃ n : Nat, i = x + (n : Nat) := ⟨(i - x).toNat, by omega⟩
      conv => whnf
      refine .mk (Int × Nat × List Nat) [0, 14, 17] (fun (w, _) => [.v (.slice (some ⟨b, 0, none⟩) m cap), .v (iv i), .v (iv w)]) (fun _ => []) (fun (w, t, ys) h' => (w = x + (t : Nat) ∧ n ≤ t ∧ t ≤ A.length ∧ ys = (P ++ A.take t) ++ b0 :: (A.drop t ++ S)) ∧ h' = hS h0 b tl ys) (fun (w, _, _) => (w - i).toNat) (y, A.length, os) (fun (_, _, _) => rfl) ⟨⟨by omega, by omega, by omega, by rw [ho, List.take_length, List.drop_length]; simp [List.append_assoc]⟩, rfl⟩ rfl rfl ?_
      rintro ⟨w, t, ys⟩ e3 h3' ⟨⟨hw, htn, htA, hys⟩, rfl⟩
      have hyl : ys.length = m := by rw [hys]; simp only [List.length_append, List.length_cons, List.length_take, List.length_drop]; omega
      conv => whnf
      refine br_dec (fun u3 => ?_) (fun u3 => ?_)
      · obtain ⟨w, rfl⟩ := Int.eq_ofNat_of_zero_le (show 0 ≤ w by omega)
        obtain ⟨s, rfl⟩ : ∃ s, t = s + 1 := ⟨t - 1, by omega⟩
        have hsA : s < A.length := by omega
        have dA : A.drop s = A[s]'hsA :: A.drop (s + 1) := List.drop_eq_getElem_cons (by omega)
        have tA : A.take (s + 1) = A.take s ++ [A[s]'hsA] := by rw [List.take_add_one, List.getElem?_eq_getElem (by omega)]; rfl
        have hys2 : ys = (P ++ A.take s) ++ A[s]'hsA :: ([] ++ b0 :: (A.drop (s + 1) ++ S)) := by rw [hys, tA]; simp only [List.append_assoc, List.cons_append, List.nil_append]
        have hl1 : (P ++ A.take s).length = w - 1 := by simp only [List.length_append, List.length_take]; omega
        have g1 : ys[w - 1]'(by omega) = A[s]'hsA := get_fst _ _ _ hys2 (by rw [hl1]) _
        have g2 : ys[w]'(by omega) = b0 := get_fst _ _ _ hys (by simp only [List.length_append, List.length_take]; omega) _
        have sw := swp_two _ _ _ (A[s]'hsA) b0 (w - 1) w (by rw [hl1]) (by rw [hl1]; simp only [List.length_nil]; omega) ys hys2
        rw [List.set_comm _ _ (by omega)] at sw
        conv => whnf
        refine .ok (by omega) (by omega) ?_
        conv => whnf
        refine .ok (by omega) (by omega) ?_
        conv => whnf
        refine .mk _ rfl (by omega) (by omega) ?_
        conv => whnf
        refine .hp _ (ldS (j := w - 1) (by omega) (by omega)) ?_
        conv => whnf
        refine .mk _ rfl (by omega) (by omega) ?_
        conv => whnf
        refine .hp _ (ldS (j := w) (by omega) (by omega)) ?_
        conv => whnf
        refine .mk _ rfl (by omega) (by omega) ?_
        conv => whnf
        refine stS (j := w) (v := ys[w - 1]) (by omega) (by omega) ?_
        conv => whnf
        refine .mk _ rfl (by omega) (by omega) ?_
        conv => whnf
        refine stS (j := w - 1) (v := ys[w]) (by omega) (by simp; omega) ?_
        rw [g1, g2, sw]
        conv => whnf
        refine .ok (by omega) (by omega) ?_
        conv => whnf
        refine ⟨((w : Int) - 1, s, _), rfl, rfl, ⟨⟨by omega, by omega, by omega, ?_⟩, rfl⟩, by show ((w : Int) - 1 - i).toNat < ((w : Int) - i).toNat; omega⟩
        rw [dA]; simp only [List.append_assoc, List.cons_append, List.nil_append]
      · obtain rfl : t = n := by omega
        conv => whnf
        rw [hys, show (P ++ A.take t) ++ b0 :: (A.drop t ++ S) = P ++ ((A.take t ++ b0 :: A.drop t) ++ S) from by simp [List.append_assoc]]
        exact hR _ _ (mrg_right (by omega) hA hAB (fun w hw q => i1 w hw (by omega)) (fun w hw q => i2 w hw (by omega)))
  · conv => whnf
    exact hN _ rfl (by omega)
theorem symx_c28 (Q : Post) (e : Env) {h0 : Hp} {b : Nat} {tl : List Value} {q m cap : Nat} (hm : m ≤ 1000000) (os : List Nat) (x y z : Int) (h0x : 0 ≤ x) (_hxy : x < y) (hyz : y < z) (_hz : z ≤ m) (t : Int) (ht : 0 ≤ t) (ht2 : t ≤ m) (hd1 : 2 * t ≤ x + z) (hd2 : x + z ≤ 2 * t + 1)
    (he : [0, 1, 2, 3, 4, 18, 19].map e = [.v (.slice (some ⟨b, 0, none⟩) m cap), .v (iv x), .v (iv y), .v (iv z), .v (fnP q), .v (iv t), .v (iv (t + y))]) (hQ : ∀ (e : Env) (S R : Int), ((t < y ∧ S = t + y - z ∧ R = t) ∨ (y ≤ t ∧ S = x ∧ R = y)) → [0, 1, 2, 3, 4, 18, 19, 20, 21].map e = [.v (.slice (some ⟨b, 0, none⟩) m cap), .v (iv x), .v (iv y), .v (iv z), .v (fnP q), .v (iv t), .v (iv (t + y)), .v (iv S), .v (iv R)] → Q .normal e [] (hS h0 b tl os)) : wpIR Tryz.prog 220 s28 Q e [] (hS h0 b tl os) := by
  have hself := updL_self [0, 1, 2, 3, 4, 18, 19] e
  rw [he] at hself
  rw [← hself]
  conv => whnf
  refine br_dec (fun u => ?_) (fun u => ?_)
  · conv => whnf
    refine .ok (by omega) (by omega) ?_
    conv => whnf
    exact hQ _ (t + y - z) t (.inl ⟨by omega, rfl, rfl⟩) rfl
  · conv => whnf
    exact hQ _ x y (.inr ⟨by omega, rfl, rfl⟩) rfl
theorem symx_M (Q : Post) (e : Env) {h0 : Hp} {b : Nat} {tl : List Value} {q m cap N : Nat} {X F : Option Addr} {k c d : Nat} {pk : List Int} (hm : m ≤ 1000000) (hF : ∀ ys, Facts (hS h0 b tl ys) q X F k c m d pk) (hI : SymX h0 b tl q m cap pk N) (P A B S : List Nat) (hos : (P ++ (A ++ (B ++ S))).length = m) (hx : ∀ x ∈ P ++ (A ++ (B ++ S)), x < m) (hA : Up pk A) (hB : Up pk B) (hAB : LtL A B) (hN : A.length + B.length < N + 1) (hA2 : 2 ≤ A.length) (hB2 : 2 ≤ B.length) (x y z : Int) (h1 : x = (P.length : Nat)) (h2 : y = x + (A.length : Nat)) (h3 : z = y + (B.length : Nat))
    (he : [0, 1, 2, 3, 4].map e = [.v (.slice (some ⟨b, 0, none⟩) m cap), .v (iv x), .v (iv y), .v (iv z), .v (fnP q)]) (hQ : ∀ e M, Mrg pk A B M → Q .normal e [] (hS h0 b tl (P ++ (M ++ S)))) : wpIR Tryz.prog 220 s25 Q e [] (hS h0 b tl (P ++ (A ++ (B ++ S)))) := by
  have hlen := hos
  simp only [List.length_append] at hlen
  refine sym_c25 (fun ex e L h => match ex with | .normal => wpIR Tryz.prog 220 s26 Q e L h | ex => Q ex e L h) e hm _ x y z (by omega) (by omega) (by omega) (by omega) he fun e1 t hd1 hd2 he1 => ?_
  refine sym_c26 (fun ex e L h => match ex with | .normal => wpIR Tryz.prog 220 s27 Q e L h | ex => Q ex e L h) e1 hm _ x y z (by omega) (by omega) (by omega) (by omega) t (by omega) (by omega) he1 fun e2 he2 => ?_
  refine sym_c27 (fun ex e L h => match ex with | .normal => wpIR Tryz.prog 220 (.seq s28 sR0) Q e L h | ex => Q ex e L h) e2 _ _ he2 fun e3 he3 => ?_
  refine symx_c28 (fun ex e L h => match ex with | .normal => wpIR Tryz.prog 220 sR0 Q e L h | ex => Q ex e L h) e3 hm _ x y z (by omega) (by omega) (by omega) (by omega) t (by omega) (by omega) hd1 hd2 he3 fun e4 S0 R0 hSR he4 => ?_
  exact symx_r0 Q e4 hm hF hI P A B S hos hx hA hB hAB hN x y z t (t + y) S0 R0 h1 h2 h3 rfl (by omega) (by omega) hA2 hB2 hSR he4 hQ
theorem sym78x {h0 : Hp} {b : Nat} {tl : List Value} {q m cap : Nat} {X F : Option Addr} {k c d : Nat} {pk : List Int} (hm : m ≤ 1000000) (hF : ∀ ys, Facts (hS h0 b tl ys) q X F k c m d pk) : ∀ N, SymX h0 b tl q m cap pk N
  | 0 => fun _ _ _ _ _ _ _ _ _ _ _ hN => absurd hN (Nat.not_lt_zero _)
  | N + 1 => by
    intro P A B S hos hx nA nB hA hB hAB hN x y z h1 h2 h3
    have ih := sym78x (cap := cap) hm hF N
    have pA := List.length_pos_iff.2 nA
    have pB := List.length_pos_iff.2 nB
    refine Fn.intro (args := [.slice (some ⟨b, 0, none⟩) m cap, iv x, iv y, iv z, fnP q]) mix14 Tryz.func55 rfl (by decide) Tryz.ntmps55 rfl (low55 rfl) rfl ?_
    generalize hQ : wpEnd Tryz.prog Tryz.f55.results.toList _ = Q
    have hQn : ∀ e M, Mrg pk A B M → Q .normal e [] (hS h0 b tl (P ++ (M ++ S))) := fun e M hM => by
      subst hQ
      conv => whnf
      exact .done ⟨rfl, M, hM, rfl⟩
    have hQr : ∀ e M, Mrg pk A B M → Q .ret e [] (hS h0 b tl (P ++ (M ++ S))) := fun e M hM => by
      subst hQ
      conv => whnf
      exact .done ⟨rfl, M, hM, rfl⟩
    clear hQ
    refine symx_A (fun ex e L h => match ex with | .normal => wpIR Tryz.prog 220 (.seq sB s25) Q e L h | ex => Q ex e L h) _ hm hF P A B S hos hx pA pB hB hAB x y z h1 h2 h3 rfl hQr fun e1 he1 u => ?_
    refine symx_B (fun ex e L h => match ex with | .normal => wpIR Tryz.prog 220 s25 Q e L h | ex => Q ex e L h) e1 hm hF P A B S hos hx pA pB hA hAB x y z h1 h2 h3 he1 hQr fun e2 he2 u2 => ?_
    exact symx_M Q e2 hm hF ih P A B S hos hx hA hB hAB hN u u2 x y z h1 h2 h3 he2 hQn
end Go.Sx
