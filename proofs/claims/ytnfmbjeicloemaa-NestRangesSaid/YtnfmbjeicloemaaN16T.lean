/- Runs as a list: the document's answer. Conditions: none. -/
import Derived.Test.YtnfmbjeicloemaaN16S
namespace Go.Sx
open Go.Proofs
theorem Row.none {h h' : Hp} (x : h.le h') : Row h h' none 0 0 [] := ⟨x, ⟨rfl, .inl ⟨rfl, rfl, rfl⟩⟩, fun _ e => by cases e⟩
theorem flat34 (D : Option Addr) (n cap : Nat) (l : List Rz) (h : Hp) (hz : Tab h 2 D n (l.map zcell)) (hn : n ≤ 9223372036854775806) :
    Fn Try.prog 34 #[.slice D n cap] h fun v h' => ∃ E m c, v = .tuple #[.slice E m c, iv (flatE l)] ∧ Row h h' E m c (outR l) := by
  have hl : l.length = n := by simpa using hz.len
  have bad : ∀ {v : Int} {h' : Hp}, h.le h' → v ≠ 0 → flatE l = v → (.tuple #[.slice none 0 0, iv v] = Value.tuple #[.slice none 0 0, iv (flatE l)] ∧ Row h h' none 0 0 (outR l)) := fun hle hv he => by
    rw [he]
    refine ⟨rfl, ?_⟩
    unfold outR
    rw [if_neg (by rw [he]; exact hv)]
    exact Row.none hle
  refine Fn.intro (args := [.slice D n cap]) mix16 Try.func34 rfl (by decide) Try.ntmps34 rfl (low34 rfl) rfl ?_
  conv => whnf
  refine .mk Nat [0, 4] (fun i => [.v (.slice D n cap), .v (iv i)]) (fun _ => [])
    (fun i h' => h' = h ∧ i ≤ n ∧ badR l = badR (l.drop i)) (fun i => n - i) 0 (fun _ => rfl) ⟨rfl, Nat.zero_le _, rfl⟩ rfl rfl ?_
  rintro i e h' ⟨rfl, hi, e1⟩
  conv => whnf
  refine br_dec (fun h1 => ?_) (fun h1 => ?_)
  · have hi' : i < l.length := by omega
    obtain ⟨g, hg⟩ := hz.ad (by omega)
    rw [List.drop_eq_getElem_cons hi'] at e1
    have hcell : ∀ k v, (zcell l[i])[k]? = some v → h'.cell? ((g.add (i * 2)).add k) = some v := hz.row hg (map_get hi')
    generalize l[i] = r at e1 hcell
    obtain ⟨x, t⟩ := r
    simp only [badR] at e1
    have hb100 : x < 0 ∨ 32 ≤ x → flatE l = 100 := fun hh => by
      rw [if_pos hh] at e1
      unfold flatE
      rw [if_pos (by rw [e1]; decide), e1]
    conv => whnf
    refine .mk g hg (by omega) (by omega) ?_
    conv => whnf
    refine .hp (iv x) (by rw [Int.toNat_natCast]; exact hcell 0 _ rfl) ?_
    conv => whnf
    refine br_dec (fun h2 => ?_) (fun h2 => ?_)
    · conv => whnf
      exact .done ⟨none, 0, 0, bad (v := 100) (Hp.le_refl _) (by decide) (hb100 (.inl h2))⟩
    conv => whnf
    refine .mk g hg (by omega) (by omega) ?_
    conv => whnf
    refine .hp (iv x) (by rw [Int.toNat_natCast]; exact hcell 0 _ rfl) ?_
    conv => whnf
    refine br_dec (fun h3 => ?_) (fun h3 => ?_)
    · conv => whnf
      exact .done ⟨none, 0, 0, bad (v := 100) (Hp.le_refl _) (by decide) (hb100 (.inr h3))⟩
    rw [if_neg (by omega)] at e1
    conv => whnf
    refine .mk g hg (by omega) (by omega) ?_
    conv => whnf
    refine .hp (iv t) (by rw [Int.toNat_natCast]; exact hcell 1 _ rfl) ?_
    conv => whnf
    refine br_dec (fun h4 => ?_) (fun h4 => ?_)
    · rw [if_pos h4] at e1
      conv => whnf
      refine .done ⟨none, 0, 0, bad (v := 160) (Hp.le_refl _) (by decide) ?_⟩
      unfold flatE
      rw [if_pos (by rw [e1]; decide), e1]
    rw [if_neg h4] at e1
    conv => whnf
    refine .ok (by omega) (by omega) ?_
    conv => whnf
    exact ⟨i + 1, rfl, rfl, ⟨rfl, by omega, e1⟩, by show n - (i + 1) < n - i; omega⟩
  · obtain rfl : i = n := by omega
    rw [List.drop_of_length_le (by omega)] at e1
    simp only [badR] at e1
    have hfl := flR_len l
    have big : 2048 < totR l → flatE l = 5 := fun hh => by
      unfold flatE
      rw [if_neg (by rw [e1]; decide), if_pos hh]
    conv => whnf
    refine .mkS [] (Nat × Option Addr × Nat × Nat × List Int) [0, 5, 6] (fun (j, E, m, c, _) => [.v (.slice D i cap), .v (.slice E m c), .v (iv j)]) (fun _ => [])
      (fun (j, E, m, c, q) h2 => j ≤ i ∧ m ≤ 2048 ∧ Row h' h2 E m c q ∧ q ++ flR (l.drop j) = flR l) (fun (j, _, _, _, _) => i - j) (0, none, 0, 0, []) (fun _ => rfl) ⟨Nat.zero_le _, Nat.zero_le _, Row.nil h', rfl⟩ rfl rfl rfl ?_
    rintro ⟨j, E, m, c, q⟩ e h2 ⟨hj, hm8, hq, he⟩
    refine .done ?_
    conv => whnf
    refine br_dec (fun h3 => ?_) (fun h3 => ?_)
    · have hj' : j < l.length := by omega
      obtain ⟨g, hg⟩ := hz.ad (by omega)
      have hpos := bad_in e1 hj'
      rw [List.drop_eq_getElem_cons hj'] at he
      have hcell : ∀ h2 : Hp, h'.le h2 → ∀ k v, (zcell l[j])[k]? = some v → h2.cell? ((g.add (j * 2)).add k) = some v := fun h2 x k v hv => Hp.cell_le x (hz.row hg (map_get hj') k v hv)
      generalize l[j] = r at he hpos hcell
      obtain ⟨x, t⟩ := r
      simp only [flR] at he hpos
      obtain ⟨z, rfl⟩ : ∃ z : Nat, t = z := ⟨t.toNat, by omega⟩
      rw [Int.toNat_natCast] at he
      have hlen : ∀ {q : List Int} {k}, q ++ (rep k [x] ++ flR (l.drop (j + 1))) = flR l → q.length + k ≤ totR l := fun {q k} hh => by
        have := congrArg List.length hh
        simp only [List.length_append, rep_len, List.length_singleton] at this
        omega
      have hz2 := hlen he
      have hm := hq.n
      conv => whnf
      refine .mk g hg (by omega) (by omega) ?_
      conv => whnf
      refine .hp (iv z) (by rw [Int.toNat_natCast]; exact hcell _ hq.le 1 _ rfl) ?_
      conv => whnf
      refine .ok (by omega) (by omega) ?_
      conv => whnf
      refine br_dec (fun h4 => ?_) (fun h4 => ?_)
      · conv => whnf
        exact .done ⟨none, 0, 0, bad (v := 5) hq.le (by decide) (big (by omega))⟩
      have hzm : m + z ≤ 2048 := by omega
      conv => whnf
      refine .mkS [] (Nat × Option Addr × Nat × Nat × List Int) [0, 5, 6, 7] (fun (k, E, m, c, _) => [.v (.slice D i cap), .v (.slice E m c), .v (iv j), .v (iv k)]) (fun _ => [])
        (fun (k, E, m, c, q) h2 => k ≤ z ∧ m + (z - k) ≤ 2048 ∧ Row h' h2 E m c q ∧ q ++ (rep (z - k) [x] ++ flR (l.drop (j + 1))) = flR l) (fun (k, _, _, _, _) => z - k) (0, E, m, c, q) (fun _ => rfl) ⟨Nat.zero_le _, hzm, hq, he⟩ rfl rfl rfl ?_
      rintro ⟨k, E, m, c, q⟩ e h2 ⟨hk, hmk, hq, he⟩
      refine .done ?_
      conv => whnf
      refine .mk g hg (by omega) (by omega) ?_
      conv => whnf
      refine .hp (iv z) (by rw [Int.toNat_natCast]; exact hcell _ hq.le 1 _ rfl) ?_
      conv => whnf
      refine br_dec (fun h4 => ?_) (fun h4 => ?_)
      · have hkz : k < z := by omega
        rw [show z - k = (z - (k + 1)) + 1 by omega, rep, List.append_assoc, ← List.append_assoc] at he
        have hm := hq.n
        conv => whnf
        refine .mk g hg (by omega) (by omega) ?_
        conv => whnf
        refine .hp (iv x) (by rw [Int.toNat_natCast]; exact hcell _ hq.le 0 _ rfl) ?_
        conv => whnf
        refine .abs 3 1 E m c _ hq.row (.done (.old 1 _ [iv x] rfl rfl (numsv_one [x]) (by simp [maxLen]; omega) (by omega) fun E2 c2 hE2 => ?_))
        conv => whnf
        refine .ok (by omega) (by omega) ?_
        conv => whnf
        exact .pub 1 3 1 E2 (m + 1) c2 _ rfl fun h4 l4 hro hf => .done ⟨(k + 1, E2, m + 1, c2, q ++ [x]), rfl, rfl, ⟨hkz, by omega, hq.step (Hp.le_refl _) l4 hro hf, he⟩, by show z - (k + 1) < z - k; omega⟩
      · obtain rfl : k = z := by omega
        rw [Nat.sub_self, rep, List.nil_append] at he
        conv => whnf
        refine .ok (by omega) (by omega) ?_
        conv => whnf
        exact .done ⟨(j + 1, E, m, c, q), rfl, rfl, ⟨by omega, by omega, hq, he⟩, by show i - (j + 1) < i - j; omega⟩
    · obtain rfl : j = i := by omega
      rw [List.drop_of_length_le (by omega), show q ++ flR [] = q from List.append_nil q] at he
      have hm := hq.n
      have hfe : flatE l = 0 := by unfold flatE; rw [if_neg (by rw [e1]; decide), if_neg (by rw [← hfl, ← he]; omega)]
      conv => whnf
      refine .done ⟨E, m, c, ?_, ?_⟩
      · rw [hfe]; rfl
      · unfold outR
        rw [if_pos hfe, ← he]
        exact hq
end Go.Sx
