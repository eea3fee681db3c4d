/- Layer 19: what the stable sort's helpers do: they only change the order. Conditions: none. -/
import Derived.Test.YthibgmkobcbhhaaGreatM19K
namespace Go.Sx
open Go.Proofs Go.Sort
set_option maxRecDepth 100000
/-- the heap with the order's row written anew -/
def hS (h0 : Hp) (b : Nat) (tl : List Value) (os : List Nat) : Hp := h0.put b (.cells ((os.map fun z : Nat => iv (z : Int)) ++ tl).toArray 3 (0, 0))
theorem hS_at (h0 : Hp) (b : Nat) (tl : List Value) (os : List Nat) : hS h0 b tl os b = some (.cells ((os.map fun z : Nat => iv (z : Int)) ++ tl).toArray 3 (0, 0)) := put_at
theorem ldS {h0 : Hp} {b : Nat} {tl : List Value} {os : List Nat} {z : Int} {j : Nat} (hz : z = (j : Nat)) (hj : j < os.length) : (hS h0 b tl os).cell? ((Addr.mk b 0 none).add (z.toNat * 1)) = some (iv (os[j] : Nat)) := by
  subst hz
  rw [Int.toNat_natCast, Nat.mul_one, add_lit, Nat.zero_add]
  unfold Hp.cell?
  simp only [hS_at]
  simp only [List.getElem?_toArray]
  rw [List.getElem?_append_left (by simpa using hj), List.getElem?_map, List.getElem?_eq_getElem hj]
  rfl
theorem over_set : ∀ (cs : List Value) (j : Nat) (v : Value), j < cs.length → over cs j [v] = some (cs.set j v)
  | [], _, _, h => absurd h (Nat.not_lt_zero _)
  | _ :: _, 0, _, _ => by simp [over]
  | c :: cs, j + 1, v, h => by
    have := over_set cs j v (Nat.lt_of_succ_lt_succ h)
    simp only [over, this, List.set_cons_succ]
theorem stS {h0 : Hp} {b : Nat} {tl : List Value} {os : List Nat} {z : Int} {j v : Nat} {L : List LE} {K : List LE → Hp → Prop} (hz : z = (j : Nat)) (hj : j < os.length) (k : K L (hS h0 b tl (os.set j v))) :
    EvStore L (hS h0 b tl os) ((Addr.mk b 0 none).add (z.toNat * 1)) [iv (v : Nat)] K := by
  subst hz
  refine .hp b j 3 _ _ (by rw [Int.toNat_natCast, Nat.mul_one, add_lit, Nat.zero_add]) (hS_at _ _ _ _) (over_set _ j _ (by simp; omega)) ?_
  unfold hS at k ⊢
  rw [Hp.put_put, List.set_append_left _ _ (by simpa using hj)]
  rw [List.map_set] at k
  exact k
/-- two places change their numbers -/
def swp (os : List Nat) (i j : Nat) : List Nat := (os.set i (os.getD j 0)).set j (os.getD i 0)
theorem swp_perm {os : List Nat} {i j : Nat} (hi : i < os.length) (hj : j < os.length) : (swp os i j).Perm os := by
  unfold swp
  rw [List.getD_eq_getElem?_getD, List.getD_eq_getElem?_getD, List.getElem?_eq_getElem hi, List.getElem?_eq_getElem hj]
  exact List.set_set_perm hi hj
theorem swp_eq {os : List Nat} {i j : Nat} (hi : i < os.length) (hj : j < os.length) : (os.set i os[j]).set j os[i] = swp os i j := by
  unfold swp
  rw [List.getD_eq_getElem?_getD, List.getD_eq_getElem?_getD, List.getElem?_eq_getElem hi, List.getElem?_eq_getElem hj]
  rfl
abbrev fnP (q : Nat) : Value := .func (.func 18) #[] #[.pointer (some ⟨q, 0, none⟩)]
def Sw (h0 : Hp) (b : Nat) (tl : List Value) (os : List Nat) (v : Value) (h' : Hp) : Prop := v = .tuple #[] ∧ ∃ os' : List Nat, os'.Perm os ∧ h' = hS h0 b tl os'
theorem swap104 {h0 : Hp} {b : Nat} {tl : List Value} {q m cap : Nat} (hm : m ≤ 1000000) (os : List Nat) (hos : os.length = m) (x y n : Int) (h0x : 0 ≤ x) (h0y : 0 ≤ y) (h0n : 0 ≤ n) (hx : x + n ≤ m) (hy : y + n ≤ m) :
    Fn Tryz.prog 100 #[.slice (some ⟨b, 0, none⟩) m cap, iv x, iv y, iv n, fnP q] (hS h0 b tl os) fun v h' => Sw h0 b tl os v h' := by
  obtain ⟨x, rfl⟩ := Int.eq_ofNat_of_zero_le h0x
  obtain ⟨y, rfl⟩ := Int.eq_ofNat_of_zero_le h0y
  obtain ⟨n, rfl⟩ := Int.eq_ofNat_of_zero_le h0n
  refine Fn.intro (args := [.slice (some ⟨b, 0, none⟩) m cap, iv x, iv y, iv n, fnP q]) mix14 Tryz.func100 rfl (by decide) Tryz.ntmps100 rfl (low100 rfl) rfl ?_
  conv => whnf
  refine .mk (Nat × List Nat) [0, 1, 2, 3, 10] (fun (i, _) => [.v (.slice (some ⟨b, 0, none⟩) m cap), .v (iv x), .v (iv y), .v (iv n), .v (iv i)]) (fun _ => []) (fun (i, ys) h' => i ≤ n ∧ ys.Perm os ∧ h' = hS h0 b tl ys) (fun (i, _) => n - i) (0, os) (fun (_, _) => rfl) ⟨Nat.zero_le _, .refl _, rfl⟩ rfl rfl ?_
  rintro ⟨i, ys⟩ e h' ⟨hi, hp, rfl⟩
  have hyl : ys.length = m := by rw [hp.length_eq, hos]
  conv => whnf
  refine br_dec (fun u => ?_) (fun u => ?_)
  · have hi' : i < n := by omega
    conv => whnf
    refine .ok (by omega) (by omega) ?_
    conv => whnf
    refine .ok (by omega) (by omega) ?_
    conv => whnf
    refine .ok (by omega) (by omega) ?_
    conv => whnf
    refine .mk _ rfl (by omega) (by omega) ?_
    conv => whnf
    refine .hp _ (ldS (j := y + i) (by omega) (by omega)) ?_
    conv => whnf
    refine .ok (by omega) (by omega) ?_
    conv => whnf
    refine .mk _ rfl (by omega) (by omega) ?_
    conv => whnf
    refine .hp _ (ldS (j := x + i) (by omega) (by omega)) ?_
    conv => whnf
    refine .mk _ rfl (by omega) (by omega) ?_
    conv => whnf
    refine stS (j := x + i) (v := ys[y + i]) (by omega) (by omega) ?_
    conv => whnf
    refine .mk _ rfl (by omega) (by omega) ?_
    conv => whnf
    refine stS (j := y + i) (v := ys[x + i]) (by omega) (by simp; omega) ?_
    have sw := swp_perm (os := ys) (i := x + i) (j := y + i) (by omega) (by omega)
    have se : (ys.set (x + i) ys[y + i]).set (y + i) ys[x + i] = swp ys (x + i) (y + i) := by
      unfold swp
      rw [List.getD_eq_getElem?_getD, List.getD_eq_getElem?_getD, List.getElem?_eq_getElem (by omega), List.getElem?_eq_getElem (by omega)]
      rfl
    rw [se]
    conv => whnf
    refine .ok (by omega) (by omega) ?_
    conv => whnf
    exact ⟨(i + 1, _), rfl, rfl, ⟨hi', sw.trans hp, rfl⟩, by show n - (i + 1) < n - i; omega⟩
  · conv => whnf
    exact .done ⟨rfl, ys, hp, rfl⟩
theorem rot97 {h0 : Hp} {b : Nat} {tl : List Value} {q m cap : Nat} (hm : m ≤ 1000000) (os : List Nat) (hos : os.length = m) (x y n : Int) (h0x : 0 ≤ x) (hxy : x < y) (hyn : y < n) (hn : n ≤ m) :
    Fn Tryz.prog 77 #[.slice (some ⟨b, 0, none⟩) m cap, iv x, iv y, iv n, fnP q] (hS h0 b tl os) fun v h' => Sw h0 b tl os v h' := by
  refine Fn.intro (args := [.slice (some ⟨b, 0, none⟩) m cap, iv x, iv y, iv n, fnP q]) mix14 Tryz.func77 rfl (by decide) Tryz.ntmps77 rfl (low77 rfl) rfl ?_
  conv => whnf
  refine .ok (by omega) (by omega) ?_
  conv => whnf
  refine .ok (by omega) (by omega) ?_
  conv => whnf
  refine .mk (Int × Int × List Nat) [0, 2, 4, 10, 11] (fun (i, j, _) => [.v (.slice (some ⟨b, 0, none⟩) m cap), .v (iv y), .v (fnP q), .v (iv i), .v (iv j)]) (fun _ => []) (fun (i, j, ys) h' => 1 ≤ i ∧ 1 ≤ j ∧ i ≤ y ∧ y + j ≤ m ∧ ys.Perm os ∧ h' = hS h0 b tl ys) (fun (i, j, _) => (i + j).toNat) (y - x, n - y, os) (fun (_, _, _) => rfl) ⟨by omega, by omega, by omega, by omega, .refl _, rfl⟩ rfl rfl ?_
  rintro ⟨i, j, ys⟩ e h' ⟨hi, hj, hiy, hjm, hp, rfl⟩
  have hyl : ys.length = m := by rw [hp.length_eq, hos]
  conv => whnf
  refine br_dec (fun u => ?_) (fun u => ?_)
  · conv => whnf
    refine br_dec (fun u2 => ?_) (fun u2 => ?_)
    · conv => whnf
      refine .ok (by omega) (by omega) ?_
      conv => whnf
      refine .done (.mk _ (swap104 hm ys hyl (y - i) y j (by omega) (by omega) (by omega) (by omega) (by omega)) ?_)
      rintro _ _ ⟨rfl, ys', hp', rfl⟩
      conv => whnf
      refine .ok (by omega) (by omega) ?_
      conv => whnf
      exact ⟨(i - j, j, ys'), rfl, rfl, ⟨by omega, hj, by omega, hjm, hp'.trans hp, rfl⟩, by show (i - j + j).toNat < (i + j).toNat; omega⟩
    · conv => whnf
      refine .ok (by omega) (by omega) ?_
      conv => whnf
      refine .ok (by omega) (by omega) ?_
      conv => whnf
      refine .ok (by omega) (by omega) ?_
      conv => whnf
      refine .done (.mk _ (swap104 hm ys hyl (y - i) (y + j - i) i (by omega) (by omega) (by omega) (by omega) (by omega)) ?_)
      rintro _ _ ⟨rfl, ys', hp', rfl⟩
      conv => whnf
      refine .ok (by omega) (by omega) ?_
      conv => whnf
      exact ⟨(i, j - i, ys'), rfl, rfl, ⟨hi, by omega, hiy, by omega, hp'.trans hp, rfl⟩, by show (i + (j - i)).toNat < (i + j).toNat; omega⟩
  · conv => whnf
    refine .ok (by omega) (by omega) ?_
    conv => whnf
    refine .done (.mk _ (swap104 hm ys hyl (y - i) y i (by omega) (by omega) (by omega) (by omega) (by omega)) ?_)
    rintro _ _ ⟨rfl, ys', hp', rfl⟩
    conv => whnf
    exact .done ⟨rfl, ys', hp'.trans hp, rfl⟩
theorem ins77 {h0 : Hp} {b : Nat} {tl : List Value} {q m cap : Nat} {X F : Option Addr} {k c d : Nat} {pk : List Int} (hm : m ≤ 1000000) (hF : ∀ ys, Facts (hS h0 b tl ys) q X F k c m d pk) (os : List Nat) (hos : os.length = m) (hx : ∀ x ∈ os, x < m) (x y : Int) (h0x : 0 ≤ x) (hxy : x ≤ y) (hy : y ≤ m) :
    Fn Tryz.prog 54 #[.slice (some ⟨b, 0, none⟩) m cap, iv x, iv y, fnP q] (hS h0 b tl os) fun v h' => Sw h0 b tl os v h' := by
  refine Fn.intro (args := [.slice (some ⟨b, 0, none⟩) m cap, iv x, iv y, fnP q]) mix14 Tryz.func54 rfl (by decide) Tryz.ntmps54 rfl (low54 rfl) rfl ?_
  conv => whnf
  refine .ok (by omega) (by omega) ?_
  conv => whnf
  refine .mk (Int × List Nat) [0, 1, 2, 3, 8] (fun (i, _) => [.v (.slice (some ⟨b, 0, none⟩) m cap), .v (iv x), .v (iv y), .v (fnP q), .v (iv i)]) (fun _ => []) (fun (i, ys) h' => x + 1 ≤ i ∧ i ≤ m + 1 ∧ ys.Perm os ∧ h' = hS h0 b tl ys) (fun (i, _) => (y - i).toNat) (x + 1, os) (fun (_, _) => rfl) ⟨by omega, by omega, .refl _, rfl⟩ rfl rfl ?_
  rintro ⟨i, ys⟩ e h' ⟨hi, him, hp, rfl⟩
  conv => whnf
  refine br_dec (fun u => ?_) (fun u => ?_)
  · conv => whnf
    refine .mk (Int × List Nat) [0, 1, 2, 3, 8, 9] (fun (j, _) => [.v (.slice (some ⟨b, 0, none⟩) m cap), .v (iv x), .v (iv y), .v (fnP q), .v (iv i), .v (iv j)]) (fun _ => []) (fun (j, zs) h' => x ≤ j ∧ j ≤ i ∧ zs.Perm os ∧ h' = hS h0 b tl zs) (fun (j, _) => (j - x).toNat) (i, ys) (fun (_, _) => rfl) ⟨by omega, by omega, hp, rfl⟩ rfl rfl ?_
    rintro ⟨j, zs⟩ e2 h2 ⟨hj, hji, hp2, rfl⟩
    have hzl : zs.length = m := by rw [hp2.length_eq, hos]
    have hxz : ∀ x ∈ zs, x < m := fun x hx2 => hx x (hp2.mem_iff.1 hx2)
    conv => whnf
    refine br_dec (fun w => ?_) (fun w => ?_)
    · obtain ⟨jn, rfl⟩ := Int.eq_ofNat_of_zero_le (show 0 ≤ j by omega)
      conv => whnf
      refine .mk _ rfl (by omega) (by omega) ?_
      conv => whnf
      refine .hp _ (ldS (j := jn) (by omega) (by omega)) ?_
      conv => whnf
      refine .ok (by omega) (by omega) ?_
      conv => whnf
      refine .mk _ rfl (by omega) (by omega) ?_
      conv => whnf
      refine .hp _ (ldS (j := jn - 1) (by omega) (by omega)) ?_
      conv => whnf
      refine .mk _ (place37 (hF zs) hm (hxz _ (List.getElem_mem _)) (hxz _ (List.getElem_mem _))) ?_ ?_
      · rintro _ _ ⟨rfl, rfl⟩; exact Hp.le_refl _
      rintro _ _ ⟨rfl, rfl⟩
      conv => whnf
      refine br_dec (fun w2 => ?_) (fun w2 => ?_)
      · conv => whnf
        refine .ok (by omega) (by omega) ?_
        conv => whnf
        refine .ok (by omega) (by omega) ?_
        conv => whnf
        refine .mk _ rfl (by omega) (by omega) ?_
        conv => whnf
        refine .hp _ (ldS (j := jn - 1) (by omega) (by omega)) ?_
        conv => whnf
        refine .mk _ rfl (by omega) (by omega) ?_
        conv => whnf
        refine .hp _ (ldS (j := jn) (by omega) (by omega)) ?_
        conv => whnf
        refine .mk _ rfl (by omega) (by omega) ?_
        conv => whnf
        refine stS (j := jn) (v := zs[jn - 1]) (by omega) (by omega) ?_
        conv => whnf
        refine .mk _ rfl (by omega) (by omega) ?_
        conv => whnf
        refine stS (j := jn - 1) (v := zs[jn]) (by omega) (by simp; omega) ?_
        have sw := swp_perm (os := zs) (i := jn) (j := jn - 1) (by omega) (by omega)
        rw [swp_eq (by omega) (by omega)]
        conv => whnf
        refine .ok (by omega) (by omega) ?_
        conv => whnf
        exact ⟨((jn : Int) - 1, _), rfl, rfl, ⟨by omega, by omega, sw.trans hp2, rfl⟩, by show ((jn : Int) - 1 - x).toNat < ((jn : Int) - x).toNat; omega⟩
      · conv => whnf
        refine .ok (by omega) (by omega) ?_
        conv => whnf
        exact ⟨(i + 1, zs), rfl, rfl, ⟨by omega, by omega, hp2, rfl⟩, by show (y - (i + 1)).toNat < (y - i).toNat; omega⟩
    · conv => whnf
      refine .ok (by omega) (by omega) ?_
      conv => whnf
      exact ⟨(i + 1, zs), rfl, rfl, ⟨by omega, by omega, hp2, rfl⟩, by show (y - (i + 1)).toNat < (y - i).toNat; omega⟩
  · conv => whnf
    exact .done ⟨rfl, ys, hp, rfl⟩
end Go.Sx
namespace Go.Sx
open Go.Proofs Go.Sort
set_option maxRecDepth 100000
theorem fdiv2 (z : Int) : 2 * z.fdiv 2 ≤ z ∧ z ≤ 2 * z.fdiv 2 + 1 := by
  rw [Int.fdiv_eq_ediv_of_nonneg _ (by decide)]
  omega
noncomputable def sR3 : IR := .seq (.reg ir55_r44) (.cond (.t 213) (.reg ir55_r45) .skip)
noncomputable def sR2 : IR := .seq (.seq (.reg ir55_r42) (.cond (.t 199) (.reg ir55_r43) .skip)) sR3
noncomputable def sR1b : IR := .seq (.seq (.reg ir55_r40) (.cond (.t 185) (.reg ir55_r41) .skip)) sR2
noncomputable def sR1 : IR := .seq (.reg ir55_r39) sR1b
noncomputable def sR0 : IR := .seq (.reg ir55_r33) (.seq (.block 8 (.loop ir55_l5)) sR1)
/-- the merge's contract, of ranges shorter than a number -/
def SymTo (h0 : Hp) (b : Nat) (tl : List Value) (q m cap : Nat) (N : Nat) : Prop := ∀ (os : List Nat), os.length = m → (∀ x ∈ os, x < m) → ∀ x y z : Int, (z - x).toNat < N → 0 ≤ x → x < y → y < z → z ≤ m →
  Fn Tryz.prog 55 #[.slice (some ⟨b, 0, none⟩) m cap, iv x, iv y, iv z, fnP q] (hS h0 b tl os) fun v h' => Sw h0 b tl os v h'
theorem sym_r3 (Q : Post) (e : Env) {h0 : Hp} {b : Nat} {tl : List Value} {q m cap N : Nat} (hI : SymTo h0 b tl q m cap N) (os : List Nat) (hos : os.length = m) (hx : ∀ x ∈ os, x < m) (bb mid en : Int) (hm0 : 0 ≤ mid) (hN : (bb - mid).toNat < N) (hb : bb ≤ m)
    (he : [0, 3, 4, 18, 24].map e = [.v (.slice (some ⟨b, 0, none⟩) m cap), .v (iv bb), .v (fnP q), .v (iv mid), .v (iv en)])
    (hQ : ∀ e ys, List.Perm ys os → Q .normal e [] (hS h0 b tl ys)) : wpIR Tryz.prog 220 sR3 Q e [] (hS h0 b tl os) := by
  have hself := updL_self [0, 3, 4, 18, 24] e
  rw [he] at hself
  rw [← hself]
  conv => whnf
  refine br_dec (fun u => ?_) (fun u => ?_)
  · conv => whnf
    refine br_dec (fun u2 => ?_) (fun u2 => ?_)
    · conv => whnf
      refine .done (.mk _ (hI os hos hx mid en bb hN hm0 u u2 hb) ?_)
      rintro _ _ ⟨rfl, ys, hp, rfl⟩
      conv => whnf
      exact hQ _ ys hp
    · conv => whnf
      exact hQ _ os (.refl _)
  · conv => whnf
    exact hQ _ os (.refl _)
theorem sym_r2 (Q : Post) (e : Env) {h0 : Hp} {b : Nat} {tl : List Value} {q m cap N : Nat} (hI : SymTo h0 b tl q m cap N) (os : List Nat) (hos : os.length = m) (hx : ∀ x ∈ os, x < m) (a bb mid s en : Int) (ha : 0 ≤ a) (hm0 : 0 ≤ mid) (hN : (bb - mid).toNat < N) (hN2 : (mid - a).toNat < N) (hmb : mid ≤ m) (hb : bb ≤ m)
    (he : [0, 1, 3, 4, 18, 20, 24].map e = [.v (.slice (some ⟨b, 0, none⟩) m cap), .v (iv a), .v (iv bb), .v (fnP q), .v (iv mid), .v (iv s), .v (iv en)])
    (hQ : ∀ e ys, List.Perm ys os → Q .normal e [] (hS h0 b tl ys)) : wpIR Tryz.prog 220 sR2 Q e [] (hS h0 b tl os) := by
  have hself := updL_self [0, 1, 3, 4, 18, 20, 24] e
  rw [he] at hself
  rw [← hself]
  unfold sR2
  generalize hc : sR3 = c3
  conv => whnf
  refine br_dec (fun u => ?_) (fun u => ?_)
  · conv => whnf
    refine br_dec (fun u2 => ?_) (fun u2 => ?_)
    · conv => whnf
      refine .done (.mk _ (hI os hos hx a s mid hN2 ha u u2 hmb) ?_)
      rintro _ _ ⟨rfl, ys, hp, rfl⟩
      conv => whnf
      show wpIR Tryz.prog 220 c3 Q _ [] _
      subst hc
      exact sym_r3 Q _ hI ys (by rw [hp.length_eq, hos]) (fun x hx2 => hx x (hp.mem_iff.1 hx2)) bb mid en hm0 hN hb rfl fun e zs hz => hQ e zs (hz.trans hp)
    · conv => whnf
      show wpIR Tryz.prog 220 c3 Q _ [] _
      subst hc
      exact sym_r3 Q _ hI os hos hx bb mid en hm0 hN hb rfl hQ
  · conv => whnf
    show wpIR Tryz.prog 220 c3 Q _ [] _
    subst hc
    exact sym_r3 Q _ hI os hos hx bb mid en hm0 hN hb rfl hQ
theorem sym_c40 (Q : Post) (e : Env) {h0 : Hp} {b : Nat} {tl : List Value} {q m cap : Nat} (hm : m ≤ 1000000) (os : List Nat) (hos : os.length = m) (a mm bb mid s en : Int)
    (hs : 0 ≤ s) (hsn : en ≤ m)
    (he : [0, 1, 2, 3, 4, 18, 20, 24].map e = [.v (.slice (some ⟨b, 0, none⟩) m cap), .v (iv a), .v (iv mm), .v (iv bb), .v (fnP q), .v (iv mid), .v (iv s), .v (iv en)])
    (hQ : ∀ e ys, [0, 1, 3, 4, 18, 20, 24].map e = [.v (.slice (some ⟨b, 0, none⟩) m cap), .v (iv a), .v (iv bb), .v (fnP q), .v (iv mid), .v (iv s), .v (iv en)] → List.Perm ys os → Q .normal e [] (hS h0 b tl ys)) : wpIR Tryz.prog 220 (.seq (.reg ir55_r40) (.cond (.t 185) (.reg ir55_r41) .skip)) Q e [] (hS h0 b tl os) := by
  have hself := updL_self [0, 1, 2, 3, 4, 18, 20, 24] e
  rw [he] at hself
  rw [← hself]
  conv => whnf
  refine br_dec (fun u => ?_) (fun u => ?_)
  · conv => whnf
    refine br_dec (fun u2 => ?_) (fun u2 => ?_)
    · conv => whnf
      refine .done (.mk _ (rot97 hm os hos s mm en hs u u2 hsn) ?_)
      rintro _ _ ⟨rfl, ys, hp, rfl⟩
      conv => whnf
      exact hQ _ ys rfl hp
    · conv => whnf
      exact hQ _ os rfl (.refl _)
  · conv => whnf
    exact hQ _ os rfl (.refl _)
theorem sym_c39 (Q : Post) (e : Env) {h0 : Hp} {b : Nat} {tl : List Value} {q m cap : Nat} (os : List Nat) (a mm bb mid n s : Int)
    (hs : 0 ≤ s) (hn0 : 0 ≤ n) (hn : n ≤ 4000000) (hs2 : s ≤ 4000000)
    (he : [0, 1, 2, 3, 4, 18, 19, 20].map e = [.v (.slice (some ⟨b, 0, none⟩) m cap), .v (iv a), .v (iv mm), .v (iv bb), .v (fnP q), .v (iv mid), .v (iv n), .v (iv s)])
    (hQ : ∀ e, [0, 1, 2, 3, 4, 18, 20, 24].map e = [.v (.slice (some ⟨b, 0, none⟩) m cap), .v (iv a), .v (iv mm), .v (iv bb), .v (fnP q), .v (iv mid), .v (iv s), .v (iv (n - s))] → Q .normal e [] (hS h0 b tl os)) : wpIR Tryz.prog 220 (.reg ir55_r39) Q e [] (hS h0 b tl os) := by
  have hself := updL_self [0, 1, 2, 3, 4, 18, 19, 20] e
  rw [he] at hself
  rw [← hself]
  conv => whnf
  refine .ok (by omega) (by omega) ?_
  conv => whnf
  exact hQ _ rfl
theorem sym_r1 (Q : Post) (e : Env) {h0 : Hp} {b : Nat} {tl : List Value} {q m cap N : Nat} (hm : m ≤ 1000000) (hI : SymTo h0 b tl q m cap N) (os : List Nat) (hos : os.length = m) (hx : ∀ x ∈ os, x < m) (a mm bb mid n s : Int) (ha : 0 ≤ a) (hm0 : 0 ≤ mid) (hN : (bb - mid).toNat < N) (hN2 : (mid - a).toNat < N) (hmb : mid ≤ m) (hb : bb ≤ m)
    (hs : 0 ≤ s) (hsn : n - s ≤ m) (hn0 : 0 ≤ n) (hn : n ≤ 4000000) (hs2 : s ≤ 4000000)
    (he : [0, 1, 2, 3, 4, 18, 19, 20].map e = [.v (.slice (some ⟨b, 0, none⟩) m cap), .v (iv a), .v (iv mm), .v (iv bb), .v (fnP q), .v (iv mid), .v (iv n), .v (iv s)])
    (hQ : ∀ e ys, List.Perm ys os → Q .normal e [] (hS h0 b tl ys)) : wpIR Tryz.prog 220 sR1 Q e [] (hS h0 b tl os) := by
  refine sym_c39 (fun ex e L h => match ex with | .normal => wpIR Tryz.prog 220 sR1b Q e L h | ex => Q ex e L h) e os a mm bb mid n s hs hn0 hn hs2 he fun e1 he1 => ?_
  refine sym_c40 (fun ex e L h => match ex with | .normal => wpIR Tryz.prog 220 sR2 Q e L h | ex => Q ex e L h) e1 hm os hos a mm bb mid s (n - s) hs hsn he1 fun e2 ys he2 hp => ?_
  exact sym_r2 Q e2 hI ys (by rw [hp.length_eq, hos]) (fun x hx2 => hx x (hp.mem_iff.1 hx2)) a bb mid s (n - s) ha hm0 hN hN2 hmb hb he2 fun e zs hz => hQ e zs (hz.trans hp)
theorem sym_r0 (Q : Post) (e : Env) {h0 : Hp} {b : Nat} {tl : List Value} {q m cap N : Nat} {X F : Option Addr} {k c d : Nat} {pk : List Int} (hm : m ≤ 1000000) (hF : ∀ ys, Facts (hS h0 b tl ys) q X F k c m d pk) (hI : SymTo h0 b tl q m cap N) (os : List Nat) (hos : os.length = m) (hx : ∀ x ∈ os, x < m) (a mm bb mid n S R : Int)
    (ha : 0 ≤ a) (hm0 : 0 ≤ mid) (hN : (bb - mid).toNat < N) (hN2 : (mid - a).toNat < N) (hmb : mid ≤ m) (hb : bb ≤ m) (hS0 : 0 ≤ S) (hSR : S ≤ R) (hR : R ≤ m) (hSn : n - S ≤ m) (hRn : R ≤ n) (hn : n ≤ 2 * m)
    (he : [0, 1, 2, 3, 4, 18, 19, 20, 21].map e = [.v (.slice (some ⟨b, 0, none⟩) m cap), .v (iv a), .v (iv mm), .v (iv bb), .v (fnP q), .v (iv mid), .v (iv n), .v (iv S), .v (iv R)])
    (hQ : ∀ e ys, List.Perm ys os → Q .normal e [] (hS h0 b tl ys)) : wpIR Tryz.prog 220 sR0 Q e [] (hS h0 b tl os) := by
  have hself := updL_self [0, 1, 2, 3, 4, 18, 19, 20, 21] e
  rw [he] at hself
  rw [← hself]
  unfold sR0
  generalize hc : sR1 = c3
  conv => whnf
  refine .ok (by omega) (by omega) ?_
  conv => whnf
  refine .mk (Int × Int) [0, 1, 2, 3, 4, 18, 19, 20, 21, 22] (fun (s, r) => [.v (.slice (some ⟨b, 0, none⟩) m cap), .v (iv a), .v (iv mm), .v (iv bb), .v (fnP q), .v (iv mid), .v (iv n), .v (iv s), .v (iv r), .v (iv (n - 1))]) (fun _ => []) (fun (s, r) h' => S ≤ s ∧ s ≤ r ∧ r ≤ R ∧ h' = hS h0 b tl os) (fun (s, r) => (r - s).toNat) (S, R) (fun (_, _) => rfl) ⟨by omega, hSR, by omega, rfl⟩ rfl rfl ?_
  rintro ⟨s, r⟩ e2 h2 ⟨hs, hsr, hr, rfl⟩
  conv => whnf
  refine br_dec (fun u => ?_) (fun u => ?_)
  · have hd := fdiv2 (s + r)
    conv => whnf
    refine .ok (by omega) (by omega) ?_
    conv => whnf
    refine .mk (by omega) (by omega) ?_
    conv => whnf
    refine .mk (by omega) (by omega) ?_
    conv => whnf
    generalize (s + r).fdiv 2 = z at hd ⊢
    conv => whnf
    refine .ok (by omega) (by omega) ?_
    conv => whnf
    refine .mk _ rfl (by omega) (by omega) ?_
    conv => whnf
    refine .hp _ (ldS (j := (n - 1 - z).toNat) (by omega) (by omega)) ?_
    conv => whnf
    refine .mk _ rfl (by omega) (by omega) ?_
    conv => whnf
    refine .hp _ (ldS (j := z.toNat) (by omega) (by omega)) ?_
    conv => whnf
    refine .mk _ (place37 (hF os) hm (hx _ (List.getElem_mem _)) (hx _ (List.getElem_mem _))) ?_ ?_
    · rintro _ _ ⟨rfl, rfl⟩; exact Hp.le_refl _
    rintro _ _ ⟨rfl, rfl⟩
    conv => whnf
    refine br_intro (fun _ => ?_) (fun _ => ?_)
    · conv => whnf
      refine .ok (by omega) (by omega) ?_
      conv => whnf
      exact ⟨(z + 1, r), rfl, rfl, ⟨by omega, by omega, hr, rfl⟩, by show (r - (z + 1)).toNat < (r - s).toNat; omega⟩
    · conv => whnf
      exact ⟨(s, z), rfl, rfl, ⟨hs, by omega, by omega, rfl⟩, by show (z - s).toNat < (r - s).toNat; omega⟩
  · conv => whnf
    show wpIR Tryz.prog 220 c3 Q _ [] _
    subst hc
    exact sym_r1 Q _ hm hI os hos hx a mm bb mid n s ha hm0 hN hN2 hmb hb (by omega) (by omega) (by omega) (by omega) (by omega) rfl hQ
end Go.Sx
namespace Go.Sx
open Go.Proofs Go.Sort
set_option maxRecDepth 100000
noncomputable def sA : IR := .seq (.reg ir55_r1) (.cond (.t 28) (.seq (.reg ir55_r2) (.seq (.reg ir55_r3) (.seq (.block 0 (.loop ir55_l1)) (.seq (.seq (.reg ir55_r9) (.block 2 (.loop ir55_l2))) .ret)))) .skip)
noncomputable def sB : IR := .seq (.reg ir55_r13) (.cond (.t 80) (.seq (.reg ir55_r14) (.seq (.reg ir55_r15) (.seq (.block 4 (.loop ir55_l3)) (.seq (.seq (.reg ir55_r21) (.block 6 (.loop ir55_l4))) .ret)))) .skip)
noncomputable def s28 : IR := .seq (.reg ir55_r28) (.cond (.t 140) (.seq (.reg ir55_r29) (.reg ir55_r30)) (.seq (.reg ir55_r31) (.reg ir55_r32)))
theorem sym_A (Q : Post) (e : Env) {h0 : Hp} {b : Nat} {tl : List Value} {q m cap : Nat} {X F : Option Addr} {k c d : Nat} {pk : List Int} (hm : m ≤ 1000000) (hF : ∀ ys, Facts (hS h0 b tl ys) q X F k c m d pk) (os : List Nat) (hos : os.length = m) (hx : ∀ x ∈ os, x < m) (x y z : Int) (h0x : 0 ≤ x) (hxy : x < y) (hyz : y < z) (hz : z ≤ m)
    (he : [0, 1, 2, 3, 4].map e = [.v (.slice (some ⟨b, 0, none⟩) m cap), .v (iv x), .v (iv y), .v (iv z), .v (fnP q)]) (hR : ∀ e ys, List.Perm ys os → Q .ret e [] (hS h0 b tl ys)) (hN : ∀ e, [0, 1, 2, 3, 4].map e = [.v (.slice (some ⟨b, 0, none⟩) m cap), .v (iv x), .v (iv y), .v (iv z), .v (fnP q)] → ¬ y - x = 1 → Q .normal e [] (hS h0 b tl os)) :
    wpIR Tryz.prog 220 sA Q e [] (hS h0 b tl os) := by
  have hself := updL_self [0, 1, 2, 3, 4] e
  rw [he] at hself
  rw [← hself]
  conv => whnf
  refine .ok (by omega) (by omega) ?_
  conv => whnf
  refine br_dec (fun u => ?_) (fun u => ?_)
  · conv => whnf
    refine .mk (Int × Int) [0, 1, 4, 10, 11] (fun (i, j) => [.v (.slice (some ⟨b, 0, none⟩) m cap), .v (iv x), .v (fnP q), .v (iv i), .v (iv j)]) (fun _ => []) (fun (i, j) h' => y ≤ i ∧ i ≤ j ∧ j ≤ z ∧ h' = hS h0 b tl os) (fun (i, j) => (j - i).toNat) (y, z) (fun (_, _) => rfl) ⟨by omega, by omega, by omega, rfl⟩ rfl rfl ?_
    rintro ⟨i, j⟩ e2 h2 ⟨hi, hij, hj, rfl⟩
    conv => whnf
    refine br_dec (fun u2 => ?_) (fun u2 => ?_)
    · have hd := fdiv2 (i + j)
      conv => whnf
      refine .ok (by omega) (by omega) ?_
      conv => whnf
      refine .mk (by omega) (by omega) ?_
      conv => whnf
      refine .mk (by omega) (by omega) ?_
      conv => whnf
      generalize (i + j).fdiv 2 = t at hd ⊢
      conv => whnf
      refine .mk _ rfl (by omega) (by omega) ?_
      conv => whnf
      refine .hp _ (ldS (j := t.toNat) (by omega) (by omega)) ?_
      conv => whnf
      refine .mk _ rfl (by omega) (by omega) ?_
      conv => whnf
      refine .hp _ (ldS (j := x.toNat) (by omega) (by omega)) ?_
      conv => whnf
      refine .mk _ (place37 (hF os) hm (hx _ (List.getElem_mem _)) (hx _ (List.getElem_mem _))) ?_ ?_
      · rintro _ _ ⟨rfl, rfl⟩; exact Hp.le_refl _
      rintro _ _ ⟨rfl, rfl⟩
      conv => whnf
      refine br_intro (fun _ => ?_) (fun _ => ?_)
      · conv => whnf
        refine .ok (by omega) (by omega) ?_
        conv => whnf
        exact ⟨(t + 1, j), rfl, rfl, ⟨by omega, by omega, hj, rfl⟩, by show (j - (t + 1)).toNat < (j - i).toNat; omega⟩
      · conv => whnf
        exact ⟨(i, t), rfl, rfl, ⟨hi, by omega, by omega, rfl⟩, by show (t - i).toNat < (j - i).toNat; omega⟩
    · conv => whnf
      refine .mk (Int × List Nat) [0, 10, 13] (fun (w, _) => [.v (.slice (some ⟨b, 0, none⟩) m cap), .v (iv i), .v (iv w)]) (fun _ => []) (fun (w, ys) h' => x ≤ w ∧ w ≤ m ∧ ys.Perm os ∧ h' = hS h0 b tl ys) (fun (w, _) => (i - w).toNat) (x, os) (fun (_, _) => rfl) ⟨by omega, by omega, .refl _, rfl⟩ rfl rfl ?_
      rintro ⟨w, ys⟩ e3 h3 ⟨hw, hwm, hp, rfl⟩
      have hyl : ys.length = m := by rw [hp.length_eq, hos]
      conv => whnf
      refine .ok (by omega) (by omega) ?_
      conv => whnf
      refine br_dec (fun u3 => ?_) (fun u3 => ?_)
      · obtain ⟨w, rfl⟩ := Int.eq_ofNat_of_zero_le (show 0 ≤ w by omega)
        conv => whnf
        refine .ok (by omega) (by omega) ?_
        conv => whnf
        refine .ok (by omega) (by omega) ?_
        conv => whnf
        refine .mk _ rfl (by omega) (by omega) ?_
        conv => whnf
        refine .hp _ (ldS (j := w + 1) (by omega) (by omega)) ?_
        conv => whnf
        refine .mk _ rfl (by omega) (by omega) ?_
        conv => whnf
        refine .hp _ (ldS (j := w) (by omega) (by omega)) ?_
        conv => whnf
        refine .mk _ rfl (by omega) (by omega) ?_
        conv => whnf
        refine stS (j := w) (v := ys[w + 1]) (by omega) (by omega) ?_
        conv => whnf
        refine .mk _ rfl (by omega) (by omega) ?_
        conv => whnf
        refine stS (j := w + 1) (v := ys[w]) (by omega) (by simp; omega) ?_
        have sw := swp_perm (os := ys) (i := w) (j := w + 1) (by omega) (by omega)
        rw [swp_eq (by omega) (by omega)]
        conv => whnf
        refine .ok (by omega) (by omega) ?_
        conv => whnf
        exact ⟨((w : Int) + 1, _), rfl, rfl, ⟨by omega, by omega, sw.trans hp, rfl⟩, by show (i - ((w : Int) + 1)).toNat < (i - (w : Int)).toNat; omega⟩
      · conv => whnf
        exact hR _ ys hp
  · conv => whnf
    exact hN _ rfl u
theorem sym_B (Q : Post) (e : Env) {h0 : Hp} {b : Nat} {tl : List Value} {q m cap : Nat} {X F : Option Addr} {k c d : Nat} {pk : List Int} (hm : m ≤ 1000000) (hF : ∀ ys, Facts (hS h0 b tl ys) q X F k c m d pk) (os : List Nat) (hos : os.length = m) (hx : ∀ x ∈ os, x < m) (x y z : Int) (h0x : 0 ≤ x) (hxy : x < y) (hyz : y < z) (hz : z ≤ m)
    (he : [0, 1, 2, 3, 4].map e = [.v (.slice (some ⟨b, 0, none⟩) m cap), .v (iv x), .v (iv y), .v (iv z), .v (fnP q)]) (hR : ∀ e ys, List.Perm ys os → Q .ret e [] (hS h0 b tl ys)) (hN : ∀ e, [0, 1, 2, 3, 4].map e = [.v (.slice (some ⟨b, 0, none⟩) m cap), .v (iv x), .v (iv y), .v (iv z), .v (fnP q)] → ¬ z - y = 1 → Q .normal e [] (hS h0 b tl os)) :
    wpIR Tryz.prog 220 sB Q e [] (hS h0 b tl os) := by
  have hself := updL_self [0, 1, 2, 3, 4] e
  rw [he] at hself
  rw [← hself]
  conv => whnf
  refine .ok (by omega) (by omega) ?_
  conv => whnf
  refine br_dec (fun u => ?_) (fun u => ?_)
  · conv => whnf
    refine .mk (Int × Int) [0, 2, 4, 14, 15] (fun (i, j) => [.v (.slice (some ⟨b, 0, none⟩) m cap), .v (iv y), .v (fnP q), .v (iv i), .v (iv j)]) (fun _ => []) (fun (i, j) h' => x ≤ i ∧ i ≤ j ∧ j ≤ y ∧ h' = hS h0 b tl os) (fun (i, j) => (j - i).toNat) (x, y) (fun (_, _) => rfl) ⟨by omega, by omega, by omega, rfl⟩ rfl rfl ?_
    rintro ⟨i, j⟩ e2 h2 ⟨hi, hij, hj, rfl⟩
    conv => whnf
    refine br_dec (fun u2 => ?_) (fun u2 => ?_)
    · have hd := fdiv2 (i + j)
      conv => whnf
      refine .ok (by omega) (by omega) ?_
      conv => whnf
      refine .mk (by omega) (by omega) ?_
      conv => whnf
      refine .mk (by omega) (by omega) ?_
      conv => whnf
      generalize (i + j).fdiv 2 = t at hd ⊢
      conv => whnf
      refine .mk _ rfl (by omega) (by omega) ?_
      conv => whnf
      refine .hp _ (ldS (j := y.toNat) (by omega) (by omega)) ?_
      conv => whnf
      refine .mk _ rfl (by omega) (by omega) ?_
      conv => whnf
      refine .hp _ (ldS (j := t.toNat) (by omega) (by omega)) ?_
      conv => whnf
      refine .mk _ (place37 (hF os) hm (hx _ (List.getElem_mem _)) (hx _ (List.getElem_mem _))) ?_ ?_
      · rintro _ _ ⟨rfl, rfl⟩; exact Hp.le_refl _
      rintro _ _ ⟨rfl, rfl⟩
      conv => whnf
      refine br_intro (fun _ => ?_) (fun _ => ?_)
      · conv => whnf
        refine .ok (by omega) (by omega) ?_
        conv => whnf
        exact ⟨(t + 1, j), rfl, rfl, ⟨by omega, by omega, hj, rfl⟩, by show (j - (t + 1)).toNat < (j - i).toNat; omega⟩
      · conv => whnf
        exact ⟨(i, t), rfl, rfl, ⟨hi, by omega, by omega, rfl⟩, by show (t - i).toNat < (j - i).toNat; omega⟩
    · conv => whnf
      refine .mk (Int × List Nat) [0, 14, 17] (fun (w, _) => [.v (.slice (some ⟨b, 0, none⟩) m cap), .v (iv i), .v (iv w)]) (fun _ => []) (fun (w, ys) h' => i ≤ w ∧ w ≤ y ∧ ys.Perm os ∧ h' = hS h0 b tl ys) (fun (w, _) => (w - i).toNat) (y, os) (fun (_, _) => rfl) ⟨by omega, by omega, .refl _, rfl⟩ rfl rfl ?_
      rintro ⟨w, ys⟩ e3 h3 ⟨hw, hwm, hp, rfl⟩
      have hyl : ys.length = m := by rw [hp.length_eq, hos]
      conv => whnf
      refine br_dec (fun u3 => ?_) (fun u3 => ?_)
      · obtain ⟨w, rfl⟩ := Int.eq_ofNat_of_zero_le (show 0 ≤ w by omega)
        conv => whnf
        refine .ok (by omega) (by omega) ?_
        conv => whnf
        refine .ok (by omega) (by omega) ?_
        conv => whnf
        refine .mk _ rfl (by omega) (by omega) ?_
        conv => whnf
        refine .hp _ (ldS (j := w - 1) (by omega) (by omega)) ?_
        conv => whnf
        refine .mk _ rfl (by omega) (by omega) ?_
        conv => whnf
        refine .hp _ (ldS (j := w) (by omega) (by omega)) ?_
        conv => whnf
        refine .mk _ rfl (by omega) (by omega) ?_
        conv => whnf
        refine stS (j := w) (v := ys[w - 1]) (by omega) (by omega) ?_
        conv => whnf
        refine .mk _ rfl (by omega) (by omega) ?_
        conv => whnf
        refine stS (j := w - 1) (v := ys[w]) (by omega) (by simp; omega) ?_
        have sw := swp_perm (os := ys) (i := w) (j := w - 1) (by omega) (by omega)
        rw [swp_eq (by omega) (by omega)]
        conv => whnf
        refine .ok (by omega) (by omega) ?_
        conv => whnf
        exact ⟨((w : Int) - 1, _), rfl, rfl, ⟨by omega, by omega, sw.trans hp, rfl⟩, by show ((w : Int) - 1 - i).toNat < ((w : Int) - i).toNat; omega⟩
      · conv => whnf
        exact hR _ ys hp
  · conv => whnf
    exact hN _ rfl u
theorem sym_c25 (Q : Post) (e : Env) {h0 : Hp} {b : Nat} {tl : List Value} {q m cap : Nat} (hm : m ≤ 1000000) (os : List Nat) (x y z : Int) (h0x : 0 ≤ x) (hxy : x < y) (hyz : y < z) (hz : z ≤ m)
    (he : [0, 1, 2, 3, 4].map e = [.v (.slice (some ⟨b, 0, none⟩) m cap), .v (iv x), .v (iv y), .v (iv z), .v (fnP q)]) (hQ : ∀ e t, 2 * t ≤ x + z → x + z ≤ 2 * t + 1 → [0, 1, 2, 3, 4, 18].map e = [.v (.slice (some ⟨b, 0, none⟩) m cap), .v (iv x), .v (iv y), .v (iv z), .v (fnP q), .v (iv t)] → Q .normal e [] (hS h0 b tl os)) : wpIR Tryz.prog 220 (.reg ir55_r25) Q e [] (hS h0 b tl os) := by
  have hself := updL_self [0, 1, 2, 3, 4] e
  rw [he] at hself
  rw [← hself]
  have hd := fdiv2 (x + z)
  conv => whnf
  refine .ok (by omega) (by omega) ?_
  conv => whnf
  refine .mk (by omega) (by omega) ?_
  conv => whnf
  refine .mk (by omega) (by omega) ?_
  conv => whnf
  exact hQ _ _ hd.1 hd.2 rfl
theorem sym_c26 (Q : Post) (e : Env) {h0 : Hp} {b : Nat} {tl : List Value} {q m cap : Nat} (hm : m ≤ 1000000) (os : List Nat) (x y z : Int) (h0x : 0 ≤ x) (hxy : x < y) (hyz : y < z) (hz : z ≤ m) (t : Int) (ht : 0 ≤ t) (ht2 : t ≤ m)
    (he : [0, 1, 2, 3, 4, 18].map e = [.v (.slice (some ⟨b, 0, none⟩) m cap), .v (iv x), .v (iv y), .v (iv z), .v (fnP q), .v (iv t)]) (hQ : ∀ e, [0, 1, 2, 3, 4, 18, 19].map e = [.v (.slice (some ⟨b, 0, none⟩) m cap), .v (iv x), .v (iv y), .v (iv z), .v (fnP q), .v (iv t), .v (iv (t + y))] → Q .normal e [] (hS h0 b tl os)) : wpIR Tryz.prog 220 (.reg ir55_r26) Q e [] (hS h0 b tl os) := by
  have hself := updL_self [0, 1, 2, 3, 4, 18] e
  rw [he] at hself
  rw [← hself]
  conv => whnf
  refine .ok (by omega) (by omega) ?_
  conv => whnf
  exact hQ _ rfl
theorem sym_c27 (Q : Post) (e : Env) (h : Hp) (vs : List SV)
    (he : [0, 1, 2, 3, 4, 18, 19].map e = vs) (hQ : ∀ e, [0, 1, 2, 3, 4, 18, 19].map e = vs → Q .normal e [] h) : wpIR Tryz.prog 220 (.reg ir55_r27) Q e [] h := by
  subst he
  conv => whnf
  exact hQ _ rfl
theorem sym_c28 (Q : Post) (e : Env) {h0 : Hp} {b : Nat} {tl : List Value} {q m cap : Nat} (hm : m ≤ 1000000) (os : List Nat) (x y z : Int) (h0x : 0 ≤ x) (hxy : x < y) (hyz : y < z) (hz : z ≤ m) (t : Int) (ht : 0 ≤ t) (ht2 : t ≤ m) (hd1 : 2 * t ≤ x + z) (hd2 : x + z ≤ 2 * t + 1)
    (he : [0, 1, 2, 3, 4, 18, 19].map e = [.v (.slice (some ⟨b, 0, none⟩) m cap), .v (iv x), .v (iv y), .v (iv z), .v (fnP q), .v (iv t), .v (iv (t + y))]) (hQ : ∀ (e : Env) (S R : Int), 0 ≤ S → S ≤ R → R ≤ m → t + y - S ≤ m → R ≤ t + y → [0, 1, 2, 3, 4, 18, 19, 20, 21].map e = [.v (.slice (some ⟨b, 0, none⟩) m cap), .v (iv x), .v (iv y), .v (iv z), .v (fnP q), .v (iv t), .v (iv (t + y)), .v (iv S), .v (iv R)] → Q .normal e [] (hS h0 b tl os)) : wpIR Tryz.prog 220 s28 Q e [] (hS h0 b tl os) := by
  have hself := updL_self [0, 1, 2, 3, 4, 18, 19] e
  rw [he] at hself
  rw [← hself]
  conv => whnf
  refine br_dec (fun u => ?_) (fun u => ?_)
  · conv => whnf
    refine .ok (by omega) (by omega) ?_
    conv => whnf
    exact hQ _ (t + y - z) t (by omega) (by omega) (by omega) (by omega) (by omega) rfl
  · conv => whnf
    exact hQ _ x y (by omega) (by omega) (by omega) (by omega) (by omega) rfl
noncomputable def s27 : IR := .seq (.reg ir55_r27) (.seq s28 sR0)
noncomputable def s26 : IR := .seq (.reg ir55_r26) s27
noncomputable def s25 : IR := .seq (.reg ir55_r25) s26
theorem sym_M (Q : Post) (e : Env) {h0 : Hp} {b : Nat} {tl : List Value} {q m cap N : Nat} {X F : Option Addr} {k c d : Nat} {pk : List Int} (hm : m ≤ 1000000) (hF : ∀ ys, Facts (hS h0 b tl ys) q X F k c m d pk) (hI : SymTo h0 b tl q m cap N) (os : List Nat) (hos : os.length = m) (hx : ∀ x ∈ os, x < m) (x y z : Int) (h0x : 0 ≤ x) (hxy : x < y) (hyz : y < z) (hz : z ≤ m) (hN : (z - x).toNat < N + 1) (u : ¬ y - x = 1) (u2 : ¬ z - y = 1)
    (he : [0, 1, 2, 3, 4].map e = [.v (.slice (some ⟨b, 0, none⟩) m cap), .v (iv x), .v (iv y), .v (iv z), .v (fnP q)]) (hQ : ∀ e ys, List.Perm ys os → Q .normal e [] (hS h0 b tl ys)) : wpIR Tryz.prog 220 s25 Q e [] (hS h0 b tl os) := by
  refine sym_c25 (fun ex e L h => match ex with | .normal => wpIR Tryz.prog 220 s26 Q e L h | ex => Q ex e L h) e hm os x y z h0x hxy hyz hz he fun e1 t hd1 hd2 he1 => ?_
  refine sym_c26 (fun ex e L h => match ex with | .normal => wpIR Tryz.prog 220 s27 Q e L h | ex => Q ex e L h) e1 hm os x y z h0x hxy hyz hz t (by omega) (by omega) he1 fun e2 he2 => ?_
  refine sym_c27 (fun ex e L h => match ex with | .normal => wpIR Tryz.prog 220 (.seq s28 sR0) Q e L h | ex => Q ex e L h) e2 _ _ he2 fun e3 he3 => ?_
  refine sym_c28 (fun ex e L h => match ex with | .normal => wpIR Tryz.prog 220 sR0 Q e L h | ex => Q ex e L h) e3 hm os x y z h0x hxy hyz hz t (by omega) (by omega) hd1 hd2 he3 fun e4 S R hS0 hSR hR hSn hRn he4 => ?_
  exact sym_r0 Q e4 hm hF hI os hos hx x y z t (t + y) S R h0x (by omega) (by omega) (by omega) (by omega) hz hS0 hSR hR hSn hRn (by omega) he4 hQ
theorem sym78 {h0 : Hp} {b : Nat} {tl : List Value} {q m cap : Nat} {X F : Option Addr} {k c d : Nat} {pk : List Int} (hm : m ≤ 1000000) (hF : ∀ ys, Facts (hS h0 b tl ys) q X F k c m d pk) : ∀ N, SymTo h0 b tl q m cap N
  | 0 => fun _ _ _ x y z hN => absurd hN (Nat.not_lt_zero _)
  | N + 1 => by
    intro os hos hx x y z hN h0x hxy hyz hz
    have ih := sym78 (cap := cap) hm hF N
    refine Fn.intro (args := [.slice (some ⟨b, 0, none⟩) m cap, iv x, iv y, iv z, fnP q]) mix14 Tryz.func55 rfl (by decide) Tryz.ntmps55 rfl (low55 rfl) rfl ?_
    generalize hQ : wpEnd Tryz.prog Tryz.f55.results.toList _ = Q
    have hQn : ∀ e ys, List.Perm ys os → Q .normal e [] (hS h0 b tl ys) := fun e ys hp => by
      subst hQ
      conv => whnf
      exact .done ⟨rfl, ys, hp, rfl⟩
    have hQr : ∀ e ys, List.Perm ys os → Q .ret e [] (hS h0 b tl ys) := fun e ys hp => by
      subst hQ
      conv => whnf
      exact .done ⟨rfl, ys, hp, rfl⟩
    clear hQ
    refine sym_A (fun ex e L h => match ex with | .normal => wpIR Tryz.prog 220 (.seq sB s25) Q e L h | ex => Q ex e L h) _ hm hF os hos hx x y z h0x hxy hyz hz rfl hQr fun e1 he1 u => ?_
    refine sym_B (fun ex e L h => match ex with | .normal => wpIR Tryz.prog 220 s25 Q e L h | ex => Q ex e L h) e1 hm hF os hos hx x y z h0x hxy hyz hz he1 hQr fun e2 he2 u2 => ?_
    exact sym_M Q e2 hm hF ih os hos hx x y z h0x hxy hyz hz hN u u2 he2 hQn
end Go.Sx
namespace Go.Sx
open Go.Proofs Go.Sort
set_option maxRecDepth 100000
theorem stb58 {h0 : Hp} {b : Nat} {tl : List Value} {q m cap : Nat} {X F : Option Addr} {k c d : Nat} {pk : List Int} (hm : m ≤ 1000000) (hF : ∀ ys, Facts (hS h0 b tl ys) q X F k c m d pk) (os : List Nat) (hos : os.length = m) (hx : ∀ x ∈ os, x < m) :
    Fn Tryz.prog 39 #[.slice (some ⟨b, 0, none⟩) m cap, iv m, fnP q] (hS h0 b tl os) fun v h' => Sw h0 b tl os v h' := by
  refine Fn.intro (args := [.slice (some ⟨b, 0, none⟩) m cap, iv m, fnP q]) mix14 Tryz.func39 rfl (by decide) Tryz.ntmps39 rfl (low39 rfl) rfl ?_
  generalize hc : IR.block 2 (.loop ir39_l2) = c2
  conv => whnf
  refine .mk (Int × Int × List Nat) [0, 1, 2, 6, 7, 8] (fun (i, j, _) => [.v (.slice (some ⟨b, 0, none⟩) m cap), .v (iv m), .v (fnP q), .v (iv 20), .v (iv i), .v (iv j)]) (fun _ => []) (fun (i, j, ys) h' => 0 ≤ i ∧ i ≤ m ∧ j = i + 20 ∧ ys.Perm os ∧ h' = hS h0 b tl ys) (fun (i, _, _) => ((m : Int) - i).toNat) (0, 20, os) (fun (_, _, _) => rfl) ⟨by omega, by omega, by omega, .refl _, rfl⟩ rfl rfl ?_
  rintro ⟨i, j, ys⟩ e h' ⟨hi, him, rfl, hp, rfl⟩
  have hyl : ys.length = m := by rw [hp.length_eq, hos]
  have hxy : ∀ x ∈ ys, x < m := fun x hx2 => hx x (hp.mem_iff.1 hx2)
  conv => whnf
  refine br_dec (fun u => ?_) (fun u => ?_)
  · conv => whnf
    refine .done (.mk _ (ins77 hm hF ys hyl hxy i (i + 20) hi (by omega) u) ?_)
    rintro _ _ ⟨rfl, zs, hp2, rfl⟩
    conv => whnf
    refine .ok (by omega) (by omega) ?_
    conv => whnf
    exact ⟨(i + 20, i + 20 + 20, zs), rfl, rfl, ⟨by omega, by omega, rfl, hp2.trans hp, rfl⟩, by show ((m : Int) - (i + 20)).toNat < ((m : Int) - i).toNat; omega⟩
  · conv => whnf
    refine .done (.mk _ (ins77 hm hF ys hyl hxy i m hi him (by omega)) ?_)
    rintro _ _ ⟨rfl, zs, hp2, rfl⟩
    conv => whnf
    subst hc
    conv => whnf
    refine .mk (Int × List Nat) [0, 1, 2, 6] (fun (s, _) => [.v (.slice (some ⟨b, 0, none⟩) m cap), .v (iv m), .v (fnP q), .v (iv s)]) (fun _ => []) (fun (s, ws) h' => 20 ≤ s ∧ s ≤ 2000020 ∧ ws.Perm os ∧ h' = hS h0 b tl ws) (fun (s, _) => ((m : Int) - s).toNat) (20, zs) (fun (_, _) => rfl) ⟨by omega, by omega, hp2.trans hp, rfl⟩ rfl rfl ?_
    rintro ⟨s, ws⟩ e2 h2 ⟨hs, hs2, hpw, rfl⟩
    conv => whnf
    refine br_dec (fun w => ?_) (fun w => ?_)
    · have hwl : ws.length = m := by rw [hpw.length_eq, hos]
      conv => whnf
      refine .ok (by omega) (by omega) ?_
      conv => whnf
      refine .mk (Int × Int × List Nat) [0, 1, 2, 6, 7, 8] (fun (i, j, _) => [.v (.slice (some ⟨b, 0, none⟩) m cap), .v (iv m), .v (fnP q), .v (iv s), .v (iv i), .v (iv j)]) (fun _ => []) (fun (i, j, ys) h' => 0 ≤ i ∧ i ≤ m ∧ j = i + 2 * s ∧ ys.Perm os ∧ h' = hS h0 b tl ys) (fun (i, _, _) => ((m : Int) - i).toNat) (0, 2 * s, ws) (fun (_, _, _) => rfl) ⟨by omega, by omega, by omega, hpw, rfl⟩ rfl rfl ?_
      rintro ⟨i, j, vs⟩ e3 h3 ⟨hi, him, rfl, hpv, rfl⟩
      have hvl : vs.length = m := by rw [hpv.length_eq, hos]
      have hxv : ∀ x ∈ vs, x < m := fun x hx2 => hx x (hpv.mem_iff.1 hx2)
      conv => whnf
      refine br_dec (fun u2 => ?_) (fun u2 => ?_)
      · conv => whnf
        refine .ok (by omega) (by omega) ?_
        conv => whnf
        refine .done (.mk _ (sym78 hm hF (i + 2 * s - i + 1).toNat vs hvl hxv i (i + s) (i + 2 * s) (by omega) hi (by omega) (by omega) u2) ?_)
        rintro _ _ ⟨rfl, ys3, hp3, rfl⟩
        conv => whnf
        refine .ok (by omega) (by omega) ?_
        conv => whnf
        refine .ok (by omega) (by omega) ?_
        conv => whnf
        exact ⟨(i + 2 * s, i + 2 * s + 2 * s, ys3), rfl, rfl, ⟨by omega, by omega, rfl, hp3.trans hpv, rfl⟩, by show ((m : Int) - (i + 2 * s)).toNat < ((m : Int) - i).toNat; omega⟩
      · conv => whnf
        refine .ok (by omega) (by omega) ?_
        conv => whnf
        refine br_dec (fun u3 => ?_) (fun u3 => ?_)
        · conv => whnf
          refine .done (.mk _ (sym78 hm hF ((m : Int) - i + 1).toNat vs hvl hxv i (i + s) m (by omega) hi (by omega) u3 (by omega)) ?_)
          rintro _ _ ⟨rfl, ys3, hp3, rfl⟩
          conv => whnf
          refine .ok (by omega) (by omega) ?_
          conv => whnf
          exact ⟨(s * 2, ys3), rfl, rfl, ⟨by omega, by omega, hp3.trans hpv, rfl⟩, by show ((m : Int) - s * 2).toNat < ((m : Int) - s).toNat; omega⟩
        · conv => whnf
          refine .ok (by omega) (by omega) ?_
          conv => whnf
          exact ⟨(s * 2, vs), rfl, rfl, ⟨by omega, by omega, hpv, rfl⟩, by show ((m : Int) - s * 2).toNat < ((m : Int) - s).toNat; omega⟩
    · conv => whnf
      exact .done ⟨rfl, ws, hpw, rfl⟩
theorem stb36 {h0 : Hp} {b : Nat} {tl : List Value} {q m cap : Nat} {X F : Option Addr} {k c d : Nat} {pk : List Int} (hm : m ≤ 1000000) (hF : ∀ ys, Facts (hS h0 b tl ys) q X F k c m d pk) (os : List Nat) (hos : os.length = m) (hx : ∀ x ∈ os, x < m) :
    Fn Tryz.prog 17 #[.slice (some ⟨b, 0, none⟩) m cap, fnP q] (hS h0 b tl os) fun v h' => Sw h0 b tl os v h' := by
  refine Fn.intro (args := [.slice (some ⟨b, 0, none⟩) m cap, fnP q]) mix14 Tryz.func17 rfl (by decide) Tryz.ntmps17 rfl (low17 rfl) rfl ?_
  conv => whnf
  refine .done (.mk _ (stb58 hm hF os hos hx) ?_)
  rintro _ _ ⟨rfl, zs, hp2, rfl⟩
  conv => whnf
  exact .done ⟨rfl, zs, hp2, rfl⟩
end Go.Sx
