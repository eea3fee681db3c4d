/- Layer 19: the stable sort leaves the arcs by their peaks, the greatest first, those that are the same by their numbers. Conditions: none. -/
import Derived.Test.YthibgmkobcbhhaaGreatM20B
import Derived.Test.YthibgmkobcbhhaaGreatM20D
import Derived.Test.YthibgmkobcbhhaaGreatM19V
namespace Go.Sx
open Go.Proofs Go.Sort
set_option maxRecDepth 100000
/-- whole blocks, each in its order -/
inductive FCh (pk : List Int) (s : Nat) : Nat → List Nat → Prop
  | nil : FCh pk s 0 []
  | snoc {k : Nat} {l : List Nat} (L : List Nat) (h : FCh pk s k l) (hp : L.Perm (List.range' (s * k) s)) (hu : Up pk L) : FCh pk s (k + 1) (l ++ L)
/-- blocks, each in its order, the last one perhaps shorter -/
inductive Ch (pk : List Int) (s : Nat) : Nat → Nat → List Nat → Prop
  | nil (a : Nat) : Ch pk s a a []
  | cons {a b : Nat} (L r : List Nat) (h0 : 0 < L.length) (hs : L.length ≤ s) (hr : L.length = s ∨ r = []) (hp : L.Perm (List.range' a L.length)) (hu : Up pk L) (h : Ch pk s (a + L.length) b r) : Ch pk s a b (L ++ r)
theorem FCh.len {pk : List Int} {s k : Nat} {l : List Nat} (h : FCh pk s k l) : l.length = s * k ∧ ∀ x ∈ l, x < s * k := by
  induction h with
  | nil => exact ⟨rfl, fun x h => by cases h⟩
  | @snoc k l L h hp hu ih =>
    obtain ⟨a, b⟩ := ih
    have hl := hp.length_eq
    rw [List.length_range'] at hl
    refine ⟨by rw [List.length_append, a, hl, Nat.mul_succ], fun x hx => ?_⟩
    rw [Nat.mul_succ]
    rcases List.mem_append.1 hx with hx | hx
    · have := b x hx; omega
    · have := List.mem_range'_1.1 (hp.mem_iff.1 hx); omega
theorem Ch.len {pk : List Int} {s a b : Nat} {l : List Nat} (h : Ch pk s a b l) : a + l.length = b ∧ ∀ x ∈ l, a ≤ x ∧ x < b := by
  induction h with
  | nil a => exact ⟨rfl, fun x h => by cases h⟩
  | cons L r h0 hs hr hp hu h ih =>
    obtain ⟨p, q⟩ := ih
    refine ⟨by rw [List.length_append]; omega, fun x hx => ?_⟩
    rcases List.mem_append.1 hx with hx | hx
    · have := List.mem_range'_1.1 (hp.mem_iff.1 hx); omega
    · have := q x hx; omega
theorem FCh.join {pk : List Int} {s k m : Nat} {l : List Nat} (hs : 0 < s) (h : FCh pk s k l) : ∀ r, Ch pk s (s * k) m r → Ch pk s 0 m (l ++ r) := by
  induction h with
  | nil => intro r hr; exact hr
  | @snoc k l L h hp hu ih =>
    intro r hr
    have hl := hp.length_eq
    rw [List.length_range'] at hl
    rw [List.append_assoc]
    refine ih _ (.cons L r (by omega) (by omega) (.inl hl) (by rw [hl]; exact hp) hu ?_)
    rw [hl]
    exact hr
theorem Ch.one {pk : List Int} {s a m : Nat} {M : List Nat} (hp : M.Perm (List.range' a (m - a))) (hu : Up pk M) (ham : a ≤ m) (hs : m - a ≤ s) : Ch pk s a m M := by
  have hl := hp.length_eq
  rw [List.length_range'] at hl
  by_cases h : 0 < M.length
  · have := Ch.cons (pk := pk) (s := s) (a := a) (b := m) M [] h (by omega) (.inr rfl) (by rw [hl]; exact hp) hu (by rw [show a + M.length = m by omega]; exact .nil m)
    rwa [List.append_nil] at this
  · have : M = [] := len_nil h
    subst this
    rw [show a = m by simp at hl; omega]
    exact .nil m
theorem Ch.inv {pk : List Int} {s a b : Nat} {l : List Nat} (h : Ch pk s a b l) : (a = b ∧ l = []) ∨ ∃ L r, l = L ++ r ∧ 0 < L.length ∧ L.length ≤ s ∧ (L.length = s ∨ r = []) ∧ L.Perm (List.range' a L.length) ∧ Up pk L ∧ Ch pk s (a + L.length) b r := by
  cases h with
  | nil => exact .inl ⟨rfl, rfl⟩
  | cons L r h0 hs hr hp hu h => exact .inr ⟨L, r, rfl, h0, hs, hr, hp, hu, h⟩
theorem Ch.up {pk : List Int} {s m : Nat} {l : List Nat} (h : Ch pk s 0 m l) (hs : m ≤ s) : Up pk l := by
  rcases h.inv with ⟨_, rfl⟩ | ⟨L, r, rfl, h0, hs2, hr, hp, hu, h2⟩
  · exact .nil
  · have := h2.len.1
    have : r = [] := by
      rcases hr with hr | hr
      · exact len_nil (by omega)
      · exact hr
    rw [this, List.append_nil]
    exact hu
theorem range_cut (a n k : Nat) (h : k ≤ n) : List.range' a n = List.range' a k ++ List.range' (a + k) (n - k) := by
  rw [List.range'_append_1]
  congr 1
  omega
theorem mrg_perm {pk : List Int} {a n1 n2 : Nat} {A B M : List Nat} (h : Mrg pk A B M) (hA : A.Perm (List.range' a n1)) (hB : B.Perm (List.range' (a + n1) n2)) : M.Perm (List.range' a (n1 + n2)) := by
  rw [range_cut a (n1 + n2) n1 (by omega), show n1 + n2 - n1 = n2 by omega]
  exact h.perm.trans (hA.append hB)
theorem lt_blocks {a n1 n2 : Nat} {A B : List Nat} (hA : A.Perm (List.range' a n1)) (hB : B.Perm (List.range' (a + n1) n2)) : LtL A B := fun x hx y hy => by
  have h1 := List.mem_range'_1.1 (hA.mem_iff.1 hx)
  have h2 := List.mem_range'_1.1 (hB.mem_iff.1 hy)
  omega
theorem stb58x {h0 : Hp} {b : Nat} {tl : List Value} {q m cap : Nat} {X F : Option Addr} {k c d : Nat} {pk : List Int} (hm : m ≤ 1000000) (hF : ∀ ys, Facts (hS h0 b tl ys) q X F k c m d pk) :
    Fn Tryz.prog 39 #[.slice (some ⟨b, 0, none⟩) m cap, iv m, fnP q] (hS h0 b tl (List.range m)) fun v h' => v = .tuple #[] ∧ ∃ os : List Nat, Ch pk (max m 1) 0 m os ∧ h' = hS h0 b tl os := by
  refine Fn.intro (args := [.slice (some ⟨b, 0, none⟩) m cap, iv m, fnP q]) mix14 Tryz.func39 rfl (by decide) Tryz.ntmps39 rfl (low39 rfl) rfl ?_
  generalize hc : IR.block 2 (.loop ir39_l2) = c2
  conv => whnf
  refine .mk (Int × Int × Nat × List Nat) [0, 1, 2, 6, 7, 8] (fun (i, j, _, _) => [.v (.slice (some ⟨b, 0, none⟩) m cap), .v (iv m), .v (fnP q), .v (iv 20), .v (iv i), .v (iv j)]) (fun _ => []) (fun (i, j, t, D) h' => (i = ((20 * t : Nat) : Int) ∧ 20 * t ≤ m ∧ j = i + 20 ∧ FCh pk 20 t D) ∧ h' = hS h0 b tl (D ++ List.range' (20 * t) (m - 20 * t))) (fun (i, _, _, _) => ((m : Int) - i).toNat) (0, 20, 0, []) (fun (_, _, _, _) => rfl) ⟨⟨by omega, by omega, by omega, .nil⟩, by rw [List.range_eq_range']; rfl⟩ rfl rfl ?_
  rintro ⟨i, j, t, D⟩ e h' ⟨⟨hi, him, rfl, hD⟩, rfl⟩
  obtain ⟨dl, dm⟩ := hD.len
  conv => whnf
  refine br_dec (fun u => ?_) (fun u => ?_)
  · have hm2 : 20 * t + 20 ≤ m := by omega
    rw [range_cut (20 * t) (m - 20 * t) 20 (by omega)]
    conv => whnf
    refine .done (.mk _ (ins77x hm hF D (List.range' (20 * t) 20) (List.range' (20 * t + 20) (m - 20 * t - 20)) (by simp only [List.length_append, List.length_range', dl]; omega) (fun x hx => by
      simp only [List.mem_append, List.mem_range'_1] at hx
      rcases hx with h | h | h
      · have := dm x h; omega
      · omega
      · omega) List.pairwise_lt_range' i (i + 20) (by omega) (by rw [List.length_range']; omega)) ?_)
    rintro _ _ ⟨rfl, M, hM, hU, rfl⟩
    conv => whnf
    refine .ok (by omega) (by omega) ?_
    conv => whnf
    refine ⟨(i + 20, i + 20 + 20, t + 1, D ++ M), rfl, rfl, ⟨⟨by omega, by omega, rfl, .snoc M hD hM hU⟩, ?_⟩, by show ((m : Int) - (i + 20)).toNat < ((m : Int) - i).toNat; omega⟩
    rw [List.append_assoc, show 20 * (t + 1) = 20 * t + 20 by omega, show m - (20 * t + 20) = m - 20 * t - 20 by omega]
  · conv => whnf
    have hn : List.range' (20 * t) (m - 20 * t) = List.range' (20 * t) (m - 20 * t) ++ [] := by simp
    rw [hn]
    refine .done (.mk _ (ins77x hm hF D (List.range' (20 * t) (m - 20 * t)) [] (by simp only [List.length_append, List.length_range', dl, List.length_nil]; omega) (fun x hx => by
      simp only [List.mem_append, List.mem_range'_1, List.not_mem_nil, or_false] at hx
      rcases hx with h | h
      · have := dm x h; omega
      · omega) List.pairwise_lt_range' i m (by omega) (by rw [List.length_range']; omega)) ?_)
    rintro _ _ ⟨rfl, M, hM, hU, rfl⟩
    have hall := hD.join (m := m) (by decide) M (.one hM hU him (by omega))
    rw [List.append_nil]
    conv => whnf
    subst hc
    conv => whnf
    refine .mk (Int × Nat × List Nat) [0, 1, 2, 6] (fun (s, _, _) => [.v (.slice (some ⟨b, 0, none⟩) m cap), .v (iv m), .v (fnP q), .v (iv s)]) (fun _ => []) (fun (s, sn, ws) h' => (s = (sn : Int) ∧ 20 ≤ s ∧ s ≤ 2000020 ∧ Ch pk sn 0 m ws) ∧ h' = hS h0 b tl ws) (fun (s, _, _) => ((m : Int) - s).toNat) (20, 20, D ++ M) (fun (_, _, _) => rfl) ⟨⟨rfl, by omega, by omega, hall⟩, rfl⟩ rfl rfl ?_
    rintro ⟨s, sn, ws⟩ e2 h2 ⟨⟨rfl, hs, hs2, hws⟩, rfl⟩
    conv => whnf
    refine br_dec (fun w => ?_) (fun w => ?_)
    · conv => whnf
      refine .ok (by omega) (by omega) ?_
      conv => whnf
      refine .mk (Int × Int × Nat × List Nat × List Nat) [0, 1, 2, 6, 7, 8] (fun (i, j, _, _, _) => [.v (.slice (some ⟨b, 0, none⟩) m cap), .v (iv m), .v (fnP q), .v (iv sn), .v (iv i), .v (iv j)]) (fun _ => []) (fun (i, j, t, D, R) h' => (i = ((2 * sn * t : Nat) : Int) ∧ 2 * sn * t ≤ m ∧ j = i + 2 * (sn : Int) ∧ FCh pk (2 * sn) t D ∧ Ch pk sn (2 * sn * t) m R) ∧ h' = hS h0 b tl (D ++ R)) (fun (i, _, _, _, _) => ((m : Int) - i).toNat) (0, 2 * (sn : Int), 0, [], ws) (fun (_, _, _, _, _) => rfl) ⟨⟨by omega, by omega, by omega, .nil, hws⟩, rfl⟩ rfl rfl ?_
      rintro ⟨i, j, t, D, R⟩ e3 h3 ⟨⟨hi, him, rfl, hD, hR⟩, rfl⟩
      obtain ⟨dl, dm⟩ := hD.len
      obtain ⟨a, ha⟩ : ∃ a, a = 2 * sn * t := ⟨_, rfl⟩
      have hsucc : 2 * sn * (t + 1) = a + 2 * sn := by rw [Nat.mul_succ, ← ha]
      have hD2 := @FCh.snoc pk (2 * sn) t D
      rw [← ha] at hi him hR dl dm hD2
      obtain ⟨rl, rm⟩ := hR.len
      conv => whnf
      refine br_dec (fun u2 => ?_) (fun u2 => ?_)
      · have ham : a + 2 * sn ≤ m := by omega
        rcases hR.inv with ⟨e0, _⟩ | ⟨L1, r1, rfl, p0, ps, pr, pp, pu, hR1⟩
        · omega
        obtain ⟨r1l, r1m⟩ := hR1.len
        have l1 : L1.length = sn := by
          rcases pr with pr | pr
          · exact pr
          · subst pr; simp only [List.length_nil] at r1l; omega
        rcases hR1.inv with ⟨e0, _⟩ | ⟨L2, r2, rfl, q0, qs, qr, qp, qu, hR2⟩
        · omega
        obtain ⟨r2l, r2m⟩ := hR2.len
        have l2 : L2.length = sn := by
          rcases qr with qr | qr
          · exact qr
          · subst qr; simp only [List.length_nil] at r2l; omega
        rw [l1] at pp qp
        rw [l2] at qp
        conv => whnf
        refine .ok (by omega) (by omega) ?_
        conv => whnf
        refine .done (.mk _ (sym78x hm hF (sn + sn + 1) D L1 L2 r2 (by simp only [List.length_append]; simp only [List.length_append] at rl r1l; omega) (fun x hx => by
          rcases List.mem_append.1 hx with h | h
          · have := dm x h; omega
          · exact (rm x h).2) (len_ne p0) (len_ne q0) pu qu (lt_blocks pp qp) (by omega) i (i + (sn : Int)) (i + 2 * (sn : Int)) (by omega) (by omega) (by omega)) ?_)
        rintro _ _ ⟨rfl, M3, hM3, rfl⟩
        conv => whnf
        refine .ok (by omega) (by omega) ?_
        conv => whnf
        refine .ok (by omega) (by omega) ?_
        conv => whnf
        have hp3 := mrg_perm hM3 pp qp
        refine ⟨(i + 2 * (sn : Int), i + 2 * (sn : Int) + 2 * (sn : Int), t + 1, D ++ M3, r2), rfl, rfl, ⟨⟨by rw [hsucc]; omega, by rw [hsucc]; omega, rfl, hD2 M3 hD (by rw [Nat.two_mul]; exact hp3) hM3.up, by rw [hsucc, Nat.two_mul, ← Nat.add_assoc]; rw [l1, l2] at hR2; exact hR2⟩, by rw [List.append_assoc]⟩, by show ((m : Int) - (i + 2 * (sn : Int))).toNat < ((m : Int) - i).toNat; omega⟩
      · have fin : ∀ M, M.Perm (List.range' a (m - a)) → Up pk M → Ch pk (2 * sn) 0 m (D ++ M) := fun M hp hu => by
          refine hD.join (by omega) M ?_
          rw [← ha]
          exact .one hp hu him (by omega)
        conv => whnf
        refine .ok (by omega) (by omega) ?_
        conv => whnf
        refine br_dec (fun u3 => ?_) (fun u3 => ?_)
        · rcases hR.inv with ⟨e0, _⟩ | ⟨L1, r1, rfl, p0, ps, pr, pp, pu, hR1⟩
          · omega
          obtain ⟨r1l, r1m⟩ := hR1.len
          have l1 : L1.length = sn := by
            rcases pr with pr | pr
            · exact pr
            · subst pr; simp only [List.length_nil] at r1l; omega
          rcases hR1.inv with ⟨e0, _⟩ | ⟨L2, r2, rfl, q0, qs, qr, qp, qu, hR2⟩
          · omega
          obtain ⟨r2l, r2m⟩ := hR2.len
          have er2 : r2 = [] := by
            rcases qr with qr | qr
            · exact len_nil (by omega)
            · exact qr
          subst er2
          simp only [List.length_nil] at r2l
          rw [l1] at pp qp
          conv => whnf
          refine .done (.mk _ (sym78x hm hF (sn + sn + 1) D L1 L2 [] (by simp only [List.length_append, List.length_nil]; simp only [List.length_append, List.length_nil] at rl r1l; omega) (fun x hx => by
            rcases List.mem_append.1 hx with h | h
            · have := dm x h; omega
            · exact (rm x h).2) (len_ne p0) (len_ne q0) pu qu (lt_blocks pp qp) (by omega) i (i + (sn : Int)) m (by omega) (by omega) (by omega)) ?_)
          rintro _ _ ⟨rfl, M3, hM3, rfl⟩
          have hp3 := mrg_perm hM3 pp qp
          rw [show sn + L2.length = m - a by omega] at hp3
          conv => whnf
          refine .ok (by omega) (by omega) ?_
          conv => whnf
          refine ⟨((sn : Int) * 2, sn * 2, D ++ (M3 ++ [])), rfl, rfl, ⟨⟨by omega, by omega, by omega, ?_⟩, rfl⟩, by show ((m : Int) - (sn : Int) * 2).toNat < ((m : Int) - (sn : Int)).toNat; omega⟩
          rw [List.append_nil, Nat.mul_comm]
          exact fin M3 hp3 hM3.up
        · conv => whnf
          refine .ok (by omega) (by omega) ?_
          conv => whnf
          refine ⟨((sn : Int) * 2, sn * 2, D ++ R), rfl, rfl, ⟨⟨by omega, by omega, by omega, ?_⟩, rfl⟩, by show ((m : Int) - (sn : Int) * 2).toNat < ((m : Int) - (sn : Int)).toNat; omega⟩
          rw [Nat.mul_comm]
          rcases hR.inv with ⟨e0, e1⟩ | ⟨L1, r1, rfl, p0, ps, pr, pp, pu, hR1⟩
          · rw [e1]
            refine fin [] ?_ .nil
            rw [show m - a = 0 by omega]
            exact .nil
          · have := hR1.len.1
            have e1 : r1 = [] := by
              rcases pr with pr | pr
              · exact len_nil (by omega)
              · exact pr
            subst e1
            simp only [List.length_nil] at this
            rw [List.append_nil]
            exact fin L1 (by rw [show m - a = L1.length by omega]; exact pp) pu
    · have hfin : Ch pk (max m 1) 0 m ws := by
        refine .one ?_ (hws.up (by omega)) (Nat.zero_le _) (by omega)
        rcases hws.inv with ⟨e0, e1⟩ | ⟨L1, r1, rfl, p0, ps, pr, pp, pu, hR1⟩
        · rw [e1, ← e0]; exact .nil
        · have := hR1.len.1
          have e1 : r1 = [] := by
            rcases pr with pr | pr
            · exact len_nil (by omega)
            · exact pr
          subst e1
          simp only [List.length_nil] at this
          rw [List.append_nil, show m - 0 = L1.length by omega]
          exact pp
      conv => whnf
      exact .done ⟨rfl, ws, hfin, rfl⟩
theorem stb36x {h0 : Hp} {b : Nat} {tl : List Value} {q m cap : Nat} {X F : Option Addr} {k c d : Nat} {pk : List Int} (hm : m ≤ 1000000) (hF : ∀ ys, Facts (hS h0 b tl ys) q X F k c m d pk) :
    Fn Tryz.prog 17 #[.slice (some ⟨b, 0, none⟩) m cap, fnP q] (hS h0 b tl (List.range m)) fun v h' => v = .tuple #[] ∧ ∃ os : List Nat, Ch pk (max m 1) 0 m os ∧ h' = hS h0 b tl os := by
  refine Fn.intro (args := [.slice (some ⟨b, 0, none⟩) m cap, fnP q]) mix14 Tryz.func17 rfl (by decide) Tryz.ntmps17 rfl (low17 rfl) rfl ?_
  conv => whnf
  refine .done (.mk _ (stb58x hm hF) ?_)
  rintro _ _ ⟨rfl, zs, hp2, rfl⟩
  conv => whnf
  exact .done ⟨rfl, zs, hp2, rfl⟩
theorem Ch.perm {pk : List Int} {s m : Nat} {l : List Nat} (h : Ch pk s 0 m l) (hs : m ≤ s) : l.Perm (List.range m) := by
  rw [List.range_eq_range']
  rcases h.inv with ⟨rfl, rfl⟩ | ⟨L1, r1, rfl, p0, ps, pr, pp, pu, hR1⟩
  · exact .nil
  · have := hR1.len.1
    have e1 : r1 = [] := by
      rcases pr with pr | pr
      · exact len_nil (by omega)
      · exact pr
    subst e1
    simp only [List.length_nil] at this
    rw [List.append_nil, show m = L1.length by omega]
    exact pp
theorem stab_up (m : Nat) (hm : m ≤ 1000000) (pk : List Int) : StabOk m pk fun os => Up pk os := by
  intro h q X F kk c d f A cap hr hdis
  obtain ⟨hxs, h2⟩ := hr
  rcases h2 with ⟨rfl, rfl, rfl⟩ | ⟨b, cur, rfl, hb, hn, hc, hsz, htk⟩
  · refine (stable36 f (by decide) none 0 0 [] (Tab.nil _ _ _) (by decide) (fun _ hx => by cases hx) (fun i hi => absurd hi (Nat.not_lt_zero _))).mono ?_
    rintro v h' ⟨rfl, rfl⟩
    exact ⟨rfl, [], .refl _, .nil, ⟨rfl, .inl ⟨rfl, rfl, rfl⟩⟩, fun _ _ => rfl⟩
  · have hq : q ≠ b := fun e => by
      have := f.cell
      rw [e, hb] at this
      injection this with this
      injection this with _ this _
      cases this
    have hcur : cur = (((List.range m).map fun z : Nat => iv (z : Int)) ++ cur.toList.drop (m * 1)).toArray := by
      rw [← htk, List.take_append_drop]
    have hcl : cur.size = cap := by omega
    have htl : (cur.toList.drop (m * 1)).length = cap - m := by simp; omega
    generalize cur.toList.drop (m * 1) = tl at hcur htl
    have he : h = hS h b tl (List.range m) := by
      funext j
      unfold hS
      by_cases hj : j = b
      · rw [hj, Hp.put_same, hb, hcur]
      · rw [Hp.put_ne _ _ hj]
    have hF : ∀ ys, Facts (hS h b tl ys) q X F kk c m d pk := fun ys =>
      ⟨by unfold hS; rw [Hp.put_ne _ _ hq]; exact f.cell, f.tab.putNe fun g hg h0 e => hdis _ g rfl hg h0 e.symm⟩
    have := stb36x (cap := cap) (m := m) hm hF
    rw [← he] at this
    refine this.mono ?_
    rintro v h' ⟨rfl, os, hch, rfl⟩
    have hp := hch.perm (by omega)
    have hol : os.length = m := by rw [hp.length_eq, List.length_range]
    refine ⟨rfl, os, hp, hch.up (by omega), ⟨by simp [hol], .inr ⟨b, _, rfl, hS_at _ _ _ _, hn, hc, by simp [hol, htl]; omega, ?_⟩⟩, fun j hj => ?_⟩
    · simp [hol]
    · exact Hp.put_ne _ _ (hj _ rfl)
end Go.Sx
namespace Go.Sx
open Go.Proofs Go.Sort
set_option maxRecDepth 100000
/-- what is free is not passed -/
theorem foldB_least {s c : Int} {ys : List Pr} (hc : 0 ≤ c) (hf : ∀ y ∈ ys, shareR (c, s) y = false) : (foldB s ys).1 ≤ c := by
  have key : ∀ (ys : List Pr) (x : Pr), x.2 = s → x.1 ≤ c → (∀ y ∈ ys, shareR (c, s) y = false) → (ys.foldl shiftR x).1 ≤ c := by
    intro ys
    induction ys with
    | nil => intro x _ h _; exact h
    | cons y ys ih =>
      intro x hs hx hf
      simp only [List.foldl_cons]
      have h1 := hf y (List.mem_cons_self ..)
      rw [Bool.eq_false_iff, ne_eq, share_iff] at h1
      unfold shiftR
      cases hh : shareR x y with
      | false => exact ih x hs hx fun z hz => hf z (List.mem_cons_of_mem _ hz)
      | true =>
        rw [share_iff] at hh
        simp only at h1
        refine ih (y.1 + y.2, x.2) hs ?_ fun z hz => hf z (List.mem_cons_of_mem _ hz)
        show y.1 + y.2 ≤ c
        omega
  exact key ys (0, s) rfl hc hf
/-- the least base at which nothing is shared -/
structure Best (s : Int) (M : Pr → Prop) (b : Int) : Prop where
  pos : 0 ≤ b
  free : ∀ y, M y → shareR (b, s) y = false
  from_ : b = 0 ∨ ∃ y, M y ∧ b = y.1 + y.2
  least : ∀ c, 0 ≤ c → (∀ y, M y → shareR (c, s) y = false) → b ≤ c
theorem Best.uniq {s : Int} {M : Pr → Prop} {b c : Int} (x : Best s M b) (y : Best s M c) : b = c :=
  Int.le_antisymm (x.least c y.pos y.free) (y.least b x.pos x.free)
theorem fold_best {s : Int} {ys : List Pr} (ho : ys.Pairwise fun a b => Go.Proofs.ltOf cfB b a = false) (hp : ∀ y ∈ ys, 0 ≤ y.1 ∧ 0 ≤ y.2) : Best s (· ∈ ys) (foldB s ys).1 := by
  obtain ⟨b1, b2⟩ := foldB_base s ys
  have ap := foldB_apart (s := s) ho
  have e : foldB s ys = ((foldB s ys).1, s) := Prod.ext rfl b1
  refine ⟨?_, fun y hy => ?_, b2, fun c hc hf => foldB_least hc hf⟩
  · rcases b2 with b2 | ⟨y, hy, b2⟩
    · omega
    · have := hp y hy; omega
  · rw [← e]; exact ap y hy
/-- the document's search: the least of the free ones so far -/
structure Srch (s : Int) (M : Pr → Prop) (c : Nat) (C : Nat → Option Pr) (b : Int) : Prop where
  none_ : b < 0 → b = -1 ∧ (¬ ∀ y, M y → shareR (0, s) y = false) ∧ ∀ k, k < c → ∀ y, C k = some y → ¬ ∀ z, M z → shareR (y.1 + y.2, s) z = false
  some_ : 0 ≤ b → (∀ z, M z → shareR (b, s) z = false) ∧ (b = 0 ∨ ∃ k, k < c ∧ ∃ y, C k = some y ∧ b = y.1 + y.2) ∧ ((∀ y, M y → shareR (0, s) y = false) → b ≤ 0) ∧ ∀ k, k < c → ∀ y, C k = some y → (∀ z, M z → shareR (y.1 + y.2, s) z = false) → b ≤ y.1 + y.2
theorem Srch.best {s : Int} {ys : List Pr} {m : Nat} {C : Nat → Option Pr} {b : Int} (x : Srch s (· ∈ ys) m C b) (hC : ∀ y, y ∈ ys ↔ ∃ k, k < m ∧ C k = some y) (ho : ys.Pairwise fun a b => Go.Proofs.ltOf cfB b a = false) (hp : ∀ y ∈ ys, 0 ≤ y.1 ∧ 0 ≤ y.2) : b = (foldB s ys).1 := by
  have fb := fold_best (s := s) ho hp
  have h0 : 0 ≤ b := by
    refine Decidable.byContradiction fun q => ?_
    obtain ⟨_, a1, a2⟩ := x.none_ (by omega)
    rcases fb.from_ with e | ⟨y, hy, e⟩
    · exact a1 (by rw [← e]; exact fb.free)
    · obtain ⟨k, hk, hc⟩ := (hC y).1 hy
      exact a2 k hk y hc (by rw [← e]; exact fb.free)
  obtain ⟨a1, a2, a3, a4⟩ := x.some_ h0
  have l1 : (foldB s ys).1 ≤ b := fb.least b h0 a1
  rcases fb.from_ with e | ⟨y, hy, e⟩
  · have := a3 (by rw [← e]; exact fb.free)
    omega
  · obtain ⟨k, hk, hc⟩ := (hC y).1 hy
    have := a4 k hk y hc (by rw [← e]; exact fb.free)
    omega
/-- some order of what is busy -/
theorem sorted_ex (l : List Pr) : ∃ ys, Sorted (Go.Proofs.ltOf cfB) l ys := by
  have key : ∀ l : List Pr, ∃ ys : List Pr, ys.Perm l ∧ ys.Pairwise fun a b => a.1 ≤ b.1 := by
    intro l
    induction l with
    | nil => exact ⟨[], .nil, .nil⟩
    | cons a l ih =>
      obtain ⟨ys, h1, h2⟩ := ih
      have ins : ∀ zs : List Pr, (zs.Pairwise fun a b => a.1 ≤ b.1) → ∃ ws : List Pr, ws.Perm (a :: zs) ∧ ws.Pairwise fun a b => a.1 ≤ b.1 := by
        intro zs
        induction zs with
        | nil => intro _; exact ⟨[a], .refl _, List.pairwise_singleton _ _⟩
        | cons z zs ih =>
          intro hz
          obtain ⟨hz1, hz2⟩ := List.pairwise_cons.1 hz
          by_cases q : a.1 ≤ z.1
          · refine ⟨a :: z :: zs, .refl _, List.pairwise_cons.2 ⟨fun w hw => ?_, hz⟩⟩
            rcases List.mem_cons.1 hw with rfl | hw
            · exact q
            · have := hz1 w hw; omega
          · obtain ⟨ws, p1, p2⟩ := ih hz2
            refine ⟨z :: ws, (List.Perm.cons z p1).trans (.swap _ _ _), List.pairwise_cons.2 ⟨fun w hw => ?_, p2⟩⟩
            rcases List.mem_cons.1 (p1.mem_iff.1 hw) with rfl | hw
            · omega
            · exact hz1 w hw
      obtain ⟨ws, p1, p2⟩ := ins ys h2
      exact ⟨ws, p1.trans (.cons a h1), p2⟩
  obtain ⟨ys, h1, h2⟩ := key l
  refine ⟨ys, h1, h2.imp fun {a b} h => ?_⟩
  rw [ltB]
  exact decide_eq_false (by omega)
/-- the regions of what is placed are not below nought -/
theorem busy_pos {ps : List Pr} {pk : List Int} {m : Nat} {os : List Nat} {regs : List Pr} {plc : List Bool} (r : Run ps pk m os regs plc) (hpk : ∀ i, 0 ≤ pk.getD i 0 ∧ pk.getD i 0 ≤ 131328) {near : List Int} : ∀ y ∈ busyR near regs plc, 0 ≤ y.1 ∧ 0 ≤ y.2 := fun y hy => by
  obtain ⟨z, _, hz, rfl⟩ := busy_mem hy
  have hl := r.lens
  have hlt : z.toNat < regs.length := by
    rw [hl.1]
    refine Decidable.byContradiction fun q => ?_
    rw [List.getD_eq_getElem?_getD, List.getElem?_eq_none (by omega)] at hz
    cases hz
  rw [List.getD_eq_getElem?_getD, List.getElem?_eq_getElem hlt]
  have := r.bnd hpk _ (List.getElem_mem hlt)
  exact ⟨this.1, this.2.1⟩
theorem fold_det {s : Int} {l ys zs : List Pr} (hl : ∀ y ∈ l, 0 ≤ y.1 ∧ 0 ≤ y.2) (h1 : Sorted (Go.Proofs.ltOf cfB) l ys) (h2 : Sorted (Go.Proofs.ltOf cfB) l zs) : foldB s ys = foldB s zs := by
  have b1 := fold_best (s := s) h1.ord fun y hy => hl y (h1.perm.mem_iff.1 hy)
  have b2 := fold_best (s := s) h2.ord fun y hy => hl y (h2.perm.mem_iff.1 hy)
  have e : ((· ∈ ys) : Pr → Prop) = (· ∈ zs) := by
    funext y
    exact propext (h1.perm.mem_iff.trans h2.perm.mem_iff.symm)
  rw [e] at b1
  exact Prod.ext (b1.uniq b2) ((foldB_base s ys).1.trans (foldB_base s zs).1.symm)
theorem run_det {ps : List Pr} {pk : List Int} {m : Nat} {os : List Nat} {r1 r2 : List Pr} {p1 p2 : List Bool} (h1 : Run ps pk m os r1 p1) (hpk : ∀ i, 0 ≤ pk.getD i 0 ∧ pk.getD i 0 ≤ 131328) (h2 : Run ps pk m os r2 p2) : r1 = r2 ∧ p1 = p2 := by
  induction h1 generalizing r2 p2 with
  | nil =>
    rcases run_inv h2 with ⟨_, rfl, rfl⟩ | ⟨os', a, _, _, _, e, _⟩
    · exact ⟨rfl, rfl⟩
    · simp at e
  | @step os regs plc a ys h hs ih =>
    rcases run_inv h2 with ⟨e, _⟩ | ⟨os', a', regs', plc', ys', e, h3, hs', rfl, rfl⟩
    · simp at e
    · obtain ⟨e1, e2⟩ := List.append_inj' e rfl
      injection e2 with e2
      subst e1; subst e2
      obtain ⟨rfl, rfl⟩ := ih h3
      rw [fold_det (busy_pos h3 hpk) hs hs']
      exact ⟨rfl, rfl⟩
/-- the document's next one -/
structure Nxt (pk : List Int) (plc : List Bool) (i : Nat) (x : Int) : Prop where
  none_ : x < 0 → x = -1 ∧ ∀ j, j < i → plc.getD j false = true
  some_ : 0 ≤ x → x.toNat < i ∧ plc.getD x.toNat false = false ∧ ∀ j, j < i → plc.getD j false = false → j = x.toNat ∨ TB pk x.toNat j
theorem Nxt.start (pk : List Int) (plc : List Bool) : Nxt pk plc 0 (-1) := ⟨fun _ => ⟨rfl, fun j h => by omega⟩, fun h => by omega⟩
theorem Nxt.keep {pk : List Int} {plc : List Bool} {i : Nat} {x : Int} (n : Nxt pk plc i x) (h : plc.getD i false = true ∨ 0 ≤ x ∧ ¬ pk.getD x.toNat 0 < pk.getD i 0) : Nxt pk plc (i + 1) x := by
  refine ⟨fun hx => ⟨(n.none_ hx).1, fun j hj => ?_⟩, fun hx => ?_⟩
  · rcases h with h | h
    · by_cases q : j = i
      · subst q; exact h
      · exact (n.none_ hx).2 j (by omega)
    · omega
  · obtain ⟨a, b, c⟩ := n.some_ hx
    refine ⟨by omega, b, fun j hj hp => ?_⟩
    by_cases q : j = i
    · subst q
      rcases h with h | h
      · rw [h] at hp; cases hp
      · refine .inr ?_
        unfold TB
        omega
    · exact c j (by omega) hp
theorem Nxt.take {pk : List Int} {plc : List Bool} {i : Nat} {x : Int} (n : Nxt pk plc i x) (h : plc.getD i false = false) (hx : x < 0 ∨ pk.getD x.toNat 0 < pk.getD i 0) : Nxt pk plc (i + 1) (i : Int) := by
  refine ⟨fun q => by omega, fun _ => ⟨by omega, by simpa using h, fun j hj hp => ?_⟩⟩
  rw [Int.toNat_natCast]
  by_cases q : j = i
  · exact .inl q
  · refine .inr ?_
    rcases hx with hx | hx
    · have := (n.none_ hx).2 j (by omega)
      rw [this] at hp; cases hp
    · by_cases q2 : x < 0
      · have := (n.none_ q2).2 j (by omega)
        rw [this] at hp; cases hp
      · obtain ⟨a, b, c⟩ := n.some_ (by omega)
        rcases c j (by omega) hp with e | e
        · subst e; exact .inl hx
        · exact TB.tr (.inl hx) e
/-- it is the next one of the order -/
theorem Nxt.is {pk : List Int} {plc : List Bool} {m : Nat} {x : Int} (n : Nxt pk plc m x) {os : List Nat} (hp : os.Perm (List.range m)) (hu : Up pk os) {k : Nat} (hk : k < os.length) (hpl : ∀ i, plc.getD i false = true ↔ i ∈ os.take k) : x = (os[k] : Nat) := by
  have hnd : os.Nodup := (hp.nodup_iff).2 List.nodup_range
  have hm : ∀ i, i ∈ os ↔ i < m := fun i => by rw [hp.mem_iff, List.mem_range]
  have hnot : ∀ t (ht : t < os.length), k ≤ t → os[t] ∉ os.take k := fun t ht hkt hmem => by
    obtain ⟨u, hu, e⟩ := List.getElem_of_mem hmem
    rw [List.length_take] at hu
    rw [List.getElem_take] at e
    have := (List.pairwise_iff_getElem.1 hnd) u t (by omega) ht (by omega)
    exact this e
  have hun : plc.getD os[k] false = false := by
    rw [Bool.eq_false_iff]
    exact fun q => hnot k hk (Nat.le_refl _) ((hpl _).1 q)
  have hkm : os[k] < m := (hm _).1 (List.getElem_mem hk)
  have h0 : 0 ≤ x := by
    refine Decidable.byContradiction fun q => ?_
    have := (n.none_ (by omega)).2 _ hkm
    rw [hun] at this; cases this
  obtain ⟨a, b, c⟩ := n.some_ h0
  rcases c _ hkm hun with e | e
  · omega
  · -- x is unplaced, hence behind os[k]
    obtain ⟨t, ht, et⟩ := List.getElem_of_mem ((hm _).2 a)
    have hkt : k ≤ t := by
      refine Decidable.byContradiction fun q => ?_
      have : x.toNat ∈ os.take k := by
        rw [← et]
        exact List.mem_take_iff_getElem.2 ⟨t, by omega, rfl⟩
      rw [(hpl _).2 this] at b; cases b
    rcases Nat.lt_or_eq_of_le hkt with q | q
    · have := List.pairwise_iff_getElem.1 hu k t hk ht q
      rw [et] at this
      exact absurd (this.tr e) TB.irr
    · subst q; omega
/-- the document's regions, where k are placed -/
def docR (pk : List Int) (os : List Nat) (regs : List Pr) (m : Nat) : List Pr := (List.range m).map fun i => if i ∈ os then regAt regs i else (0, pkAt pk i)
theorem docR_len (pk : List Int) (os : List Nat) (regs : List Pr) (m : Nat) : (docR pk os regs m).length = m := by simp [docR]
theorem docR_get {pk : List Int} {os : List Nat} {regs : List Pr} {m i : Nat} (hi : i < m) : (docR pk os regs m).getD i (0, 0) = if i ∈ os then regAt regs i else (0, pkAt pk i) := by
  rw [List.getD_eq_getElem?_getD, docR, List.getElem?_map, List.getElem?_range hi]; rfl
theorem docR_nil (pk : List Int) (m : Nat) (hl : pk.length = m) : docR pk [] (List.replicate m (0, 0)) m = pk.map fun z => ((0 : Int), z) := by
  refine List.ext_getElem? fun i => ?_
  rw [docR, List.getElem?_map, List.getElem?_map]
  by_cases hi : i < m
  · rw [List.getElem?_range hi, List.getElem?_eq_getElem (by omega)]
    simp only [Option.map_some, List.not_mem_nil, if_false]
    unfold pkAt
    rw [List.getD_eq_getElem?_getD, List.getElem?_eq_getElem (by omega)]; rfl
  · rw [List.getElem?_eq_none (by simp; omega), List.getElem?_eq_none (by omega)]; rfl
theorem docR_all {ps : List Pr} {pk : List Int} {m : Nat} {os : List Nat} {regs : List Pr} {plc : List Bool} (r : Run ps pk m os regs plc) (h : os.Perm (List.range m)) : docR pk os regs m = regs := by
  refine List.ext_getElem? fun i => ?_
  rw [docR, List.getElem?_map]
  have hl := r.lens.1
  by_cases hi : i < m
  · rw [List.getElem?_range hi, List.getElem?_eq_getElem (by omega)]
    simp only [Option.map_some]
    rw [if_pos (h.mem_iff.2 (List.mem_range.2 hi))]
    unfold regAt
    rw [List.getD_eq_getElem?_getD, List.getElem?_eq_getElem (by omega)]; rfl
  · rw [List.getElem?_eq_none (by simp; omega), List.getElem?_eq_none (by omega)]; rfl
theorem docR_step {pk : List Int} {os : List Nat} {regs : List Pr} {m a : Nat} (hl : regs.length = m) (ha : a < m) (b : Int) : docR pk (os ++ [a]) (regs.set a (b, pkAt pk a)) m = (docR pk os regs m).set a (b, pkAt pk a) := by
  refine List.ext_getElem? fun i => ?_
  rw [List.getElem?_set, docR_len]
  by_cases hi : i < m
  · rw [docR, List.getElem?_map, List.getElem?_range hi]
    simp only [Option.map_some]
    by_cases e : a = i
    · subst e
      rw [if_pos (by simp), if_pos rfl, if_pos ha]
      congr 1
      exact (getD_set _ _ _ _ _ (by omega)).trans (if_pos rfl)
    · rw [if_neg e, docR, List.getElem?_map, List.getElem?_range hi]
      simp only [Option.map_some]
      congr 1
      have : (i ∈ os ++ [a]) ↔ i ∈ os := by
        rw [List.mem_append, List.mem_singleton]
        exact ⟨fun q => q.elim id fun q => absurd q.symm e, .inl⟩
      by_cases hm : i ∈ os
      · rw [if_pos (this.2 hm), if_pos hm]
        exact (getD_set _ _ _ _ _ (by omega)).trans (if_neg (Ne.symm e))
      · rw [if_neg (fun q => hm (this.1 q)), if_neg hm]
  · rw [List.getElem?_eq_none (by rw [docR_len]; omega)]
    by_cases e : a = i
    · omega
    · rw [if_neg e, List.getElem?_eq_none (by rw [docR_len]; omega)]
def pairedB (ps : List Pr) (i j : Int) : Bool := ps.any fun p => decide (p = (min i j, max i j))
theorem paired_cl {ps : List Pr} (hps : ∀ p ∈ ps, 0 ≤ p.1 ∧ p.1 < p.2) {i j : Nat} : pairedB ps i j = true ↔ Cl ps i j := by
  unfold pairedB Cl
  rw [List.any_eq_true]
  constructor
  · rintro ⟨p, hp, e⟩
    have e := of_decide_eq_true e
    rw [e] at hp
    have := hps _ hp
    simp only at this
    by_cases q : (i : Int) ≤ j
    · rw [Int.min_eq_left q, Int.max_eq_right q] at hp; exact .inl hp
    · rw [Int.min_eq_right (by omega), Int.max_eq_left (by omega)] at hp; exact .inr hp
  · rintro (h | h)
    · have := hps _ h
      simp only at this
      exact ⟨_, h, decide_eq_true (by rw [Int.min_eq_left (by omega), Int.max_eq_right (by omega)])⟩
    · have := hps _ h
      simp only at this
      exact ⟨_, h, decide_eq_true (by rw [Int.min_eq_right (by omega), Int.max_eq_left (by omega)])⟩
/-- what is placed so far -/
theorem run_pl {ps : List Pr} {pk : List Int} {m : Nat} {os : List Nat} {regs : List Pr} {plc : List Bool} {k : Nat} (r : Run ps pk m (os.take k) regs plc) (hp : os.Perm (List.range m)) : ∀ i, plc.getD i false = true ↔ i ∈ os.take k := by
  have hm : ∀ i ∈ os.take k, i < m := fun i hi => List.mem_range.1 (hp.mem_iff.1 (List.mem_of_mem_take hi))
  generalize os.take k = l at r hm
  induction r with
  | nil =>
    intro i
    rw [List.getD_eq_getElem?_getD, List.getElem?_replicate]
    split <;> simp
  | @step os regs plc a ys r hs ih =>
    intro i
    have ham : a < m := hm a (List.mem_append_right _ (List.mem_singleton.2 rfl))
    rw [getD_set _ _ _ _ _ (by rw [r.lens.2]; exact ham), List.mem_append, List.mem_singleton]
    split
    · rename_i h; subst h; simp
    · rename_i h
      rw [ih (fun i hi => hm i (List.mem_append_left _ hi)) i]
      exact ⟨.inl, fun q => q.elim id fun q => absurd q h⟩
end Go.Sx
