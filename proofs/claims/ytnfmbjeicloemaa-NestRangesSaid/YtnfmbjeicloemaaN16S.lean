/- Runs compared; runs as a list. Conditions: none. -/
import Derived.Test.YtnfmbjeicloemaaN16R
namespace Go.Sx
open Go.Proofs
abbrev Rz := Int × Int
def zcell (r : Rz) : List Value := [iv r.1, iv r.2]
def zr (r : Rn) : Rz := (r.1, (r.2 : Int))
theorem rc_zr (l : List Rn) : (l.map zr).map zcell = l.map rcell := by
  rw [List.map_map]; exact List.map_congr_left fun _ _ => rfl
theorem zc_wid (l : List Rz) : ∀ r ∈ l.map zcell, r.length = 2 := by
  intro r hr
  obtain ⟨a, _, rfl⟩ := List.mem_map.1 hr
  rfl
theorem samer31 (A B : Option Addr) (n m cap cap' : Nat) (l k : List Rz) (h : Hp) (ht : Tab h 2 A n (l.map zcell)) (hu : Tab h 2 B m (k.map zcell)) (hn : n ≤ 9223372036854775806) :
    Fn Try.prog 31 #[.slice A n cap, .slice B m cap'] h fun r h' => r = .bool (decide (l = k)) ∧ h' = h := by
  have hl : l.length = n := by simpa using ht.len
  have hk : k.length = m := by simpa using hu.len
  refine Fn.intro (args := [.slice A n cap, .slice B m cap']) mix16 Try.func31 rfl (by decide) Try.ntmps31 rfl (low31 rfl) rfl ?_
  conv => whnf
  refine br_dec (fun h1 => ?_) (fun h1 => ?_)
  · conv => whnf
    refine .done ⟨?_, rfl⟩
    rw [decide_eq_false (fun e => h1 (by rw [← hl, ← hk, e]))]
    rfl
  have h1 : n = m := by omega
  conv => whnf
  refine .mk Nat [0, 1, 5] (fun i => [.v (.slice A n cap), .v (.slice B m cap'), .v (iv i)]) (fun _ => []) (fun i h' => h' = h ∧ i ≤ n ∧ l.take i = k.take i) (fun i => n - i) 0 (fun _ => rfl) ⟨rfl, Nat.zero_le _, rfl⟩ rfl rfl ?_
  rintro i e h' ⟨rfl, hi, hf⟩
  conv => whnf
  refine br_dec (fun h4 => ?_) (fun h4 => ?_)
  · have hi' : i < n := by omega
    obtain ⟨g, hg⟩ := ht.ad (by omega)
    obtain ⟨g', hg'⟩ := hu.ad (by omega)
    conv => whnf
    refine .mk g hg (by omega) (by omega) ?_
    conv => whnf
    refine .hp (zcell l[i]) rfl (by rw [Int.toNat_natCast]; exact ht.row hg (map_get (by omega))) ?_
    conv => whnf
    refine .mk g' hg' (by omega) (by omega) ?_
    conv => whnf
    refine .hp (zcell k[i]) rfl (by rw [Int.toNat_natCast]; exact hu.row hg' (map_get (by omega))) ?_
    conv => whnf
    refine br_intro (fun hb => ?_) (fun hb => ?_)
    · conv => whnf
      refine .done ⟨?_, rfl⟩
      rw [decide_eq_false]
      · rfl
      · intro e
        subst e
        simp [flip] at hb
    · conv => whnf
      refine .ok (by omega) (by omega) ?_
      conv => whnf
      refine ⟨i + 1, rfl, rfl, ⟨rfl, hi', ?_⟩, by omega⟩
      rw [← List.take_append_getElem (by omega), ← List.take_append_getElem (by omega), hf]
      have : l[i] = k[i] := by
        simp [flip] at hb
        exact Prod.ext hb.1 hb.2
      rw [this]
  · conv => whnf
    refine .done ⟨?_, rfl⟩
    rw [List.take_of_length_le (by omega), List.take_of_length_le (by omega)] at hf
    rw [decide_eq_true hf]
    rfl
/-- what is wrong with runs -/
def badR : List Rz → Int
  | [] => 0
  | (x, t) :: r => if x < 0 ∨ 32 ≤ x then 100 else if t < 1 then 160 else badR r
def totR : List Rz → Nat
  | [] => 0
  | (_, t) :: r => t.toNat + totR r
def flR : List Rz → List Int
  | [] => []
  | (x, t) :: r => rep t.toNat [x] ++ flR r
def flatE (l : List Rz) : Int := if badR l ≠ 0 then badR l else if 2048 < totR l then 5 else 0
def outR (l : List Rz) : List Int := if flatE l = 0 then flR l else []
theorem flR_len : ∀ l : List Rz, (flR l).length = totR l
  | [] => rfl
  | (x, t) :: r => by simp [flR, totR, rep_len, flR_len r]
theorem bad_pos : ∀ {l : List Rz}, badR l = 0 → ∀ r ∈ l, 1 ≤ r.2
  | [], _, _, h => by cases h
  | (x, t) :: l, hb, r, hr => by
    simp only [badR] at hb
    split at hb
    · cases hb
    · split at hb
      · cases hb
      · rcases List.mem_cons.1 hr with rfl | hr
        · show 1 ≤ t; omega
        · exact bad_pos hb r hr
theorem flatE_ok {l : List Rz} (h : flatE l = 0) : badR l = 0 ∧ totR l ≤ 2048 := by
  unfold flatE at h
  split at h
  · rename_i h1; exact absurd h h1
  · rename_i h1
    split at h
    · cases h
    · exact ⟨Decidable.of_not_not h1, by omega⟩
theorem imin (a b : Nat) : min (a : Int) (b : Int) = ((min a b : Nat) : Int) := by omega
theorem bad_in {l : List Rz} (hb : badR l = 0) {i : Nat} (hi : i < l.length) : 1 ≤ l[i].2 := bad_pos hb _ (List.getElem_mem hi)
theorem flat33 (D : Option Addr) (n cap : Nat) (l : List Rz) (h : Hp) (hz : Tab h 2 D n (l.map zcell)) (hn : n ≤ 9223372036854775806) :
    Fn Try.prog 33 #[.slice D n cap] h fun v h' => ∃ E m c, v = .tuple #[.slice E m c, iv (flatE l)] ∧ Row h h' E m c (outR l) := by
  have hl : l.length = n := by simpa using hz.len
  have bad : ∀ {v : Int}, v ≠ 0 → flatE l = v → (.tuple #[.slice none 0 0, iv v] = Value.tuple #[.slice none 0 0, iv (flatE l)] ∧ Row h h none 0 0 (outR l)) := fun hv he => by
    rw [he]
    refine ⟨rfl, ?_⟩
    unfold outR
    rw [if_neg (by rw [he]; exact hv)]
    exact Row.nil h
  refine Fn.intro (args := [.slice D n cap]) mix16 Try.func33 rfl (by decide) Try.ntmps33 rfl (low33 rfl) rfl ?_
  conv => whnf
  refine .mk (Nat × Nat) [0, 4, 10, 11, 12] (fun (i, q) => [.v (.slice D n cap), .v (iv q), .v (.slice D n cap), .v (iv n), .v (iv i)]) (fun _ => [])
    (fun (i, q) h' => h' = h ∧ i ≤ n ∧ q ≤ 2049 ∧ badR l = badR (l.drop i) ∧ min (q + totR (l.drop i)) 2049 = min (totR l) 2049) (fun (i, _) => n - i) (0, 0) (fun _ => rfl) ⟨rfl, Nat.zero_le _, by omega, rfl, by rw [List.drop_zero, Nat.zero_add]⟩ rfl rfl ?_
  rintro ⟨i, q⟩ e h' ⟨rfl, hi, hq, e1, e2⟩
  conv => whnf
  refine br_dec (fun h1 => ?_) (fun h1 => ?_)
  · have hi' : i < l.length := by omega
    obtain ⟨g, hg⟩ := hz.ad (by omega)
    rw [List.drop_eq_getElem_cons hi'] at e1 e2
    simp only [badR, totR] at e1 e2
    conv => whnf
    refine .mk g hg (by omega) (by omega) ?_
    conv => whnf
    refine .hp (zcell l[i]) rfl (by rw [Int.toNat_natCast]; exact hz.row hg (map_get hi')) ?_
    generalize l[i] = r at e1 e2
    obtain ⟨x, t⟩ := r
    simp only at e1 e2
    conv => whnf
    have hb100 : x < 0 ∨ 32 ≤ x → flatE l = 100 := fun hh => by
      rw [if_pos hh] at e1
      unfold flatE
      rw [if_pos (by rw [e1]; decide), e1]
    refine br_dec (fun h2 => ?_) (fun h2 => ?_)
    · conv => whnf
      exact .done ⟨none, 0, 0, bad (v := 100) (by decide) (hb100 (.inl h2))⟩
    conv => whnf
    refine br_dec (fun h3 => ?_) (fun h3 => ?_)
    · conv => whnf
      exact .done ⟨none, 0, 0, bad (v := 100) (by decide) (hb100 (.inr h3))⟩
    rw [if_neg (by omega)] at e1
    conv => whnf
    refine br_dec (fun h4 => ?_) (fun h4 => ?_)
    · rw [if_pos h4] at e1
      conv => whnf
      refine .done ⟨none, 0, 0, bad (v := 160) (by decide) ?_⟩
      unfold flatE
      rw [if_pos (by rw [e1]; decide), e1]
    rw [if_neg h4] at e1
    obtain ⟨z, rfl⟩ : ∃ z : Nat, t = z := ⟨t.toNat, by omega⟩
    rw [Int.toNat_natCast] at e2
    conv => whnf
    have hm1 : min (z : Int) 2049 = ((min z 2049 : Nat) : Int) := imin z 2049
    refine .ok (by rw [hm1]; omega) (by rw [hm1]; omega) ?_
    rw [hm1, show (q : Int) + ((min z 2049 : Nat) : Int) = ((q + min z 2049 : Nat) : Int) by omega]
    conv => whnf
    refine .ok (by omega) (by omega) ?_
    conv => whnf
    refine ⟨(i + 1, min (q + min z 2049) 2049), ?_, rfl, ⟨rfl, by omega, by omega, e1, by omega⟩, by show n - (i + 1) < n - i; omega⟩
    have hm2 : min ((q + min z 2049 : Nat) : Int) 2049 = ((min (q + min z 2049) 2049 : Nat) : Int) := imin _ 2049
    show _ = [_, SV.v (iv ((min (q + min z 2049) 2049 : Nat) : Int)), _, _, _]
    rw [← hm2]
    rfl
  · obtain rfl : i = n := by omega
    rw [List.drop_of_length_le (by omega)] at e1 e2
    simp only [badR, totR] at e1 e2
    conv => whnf
    refine br_dec (fun h2 => ?_) (fun h2 => ?_)
    · conv => whnf
      refine .done ⟨none, 0, 0, bad (v := 5) (by decide) ?_⟩
      unfold flatE
      rw [if_neg (by rw [e1]; decide), if_pos (by omega)]
    · have htot : totR l ≤ 2048 := by omega
      have hfe : flatE l = 0 := by unfold flatE; rw [if_neg (by rw [e1]; decide), if_neg (by omega)]
      have hfl := flR_len l
      conv => whnf
      refine .mkS [] (Nat × Option Addr × Nat × Nat × List Int) [7, 38, 39, 40] (fun (j, E, m, c, _) => [.v (.slice E m c), .v (.slice D i cap), .v (iv i), .v (iv j)]) (fun _ => [])
        (fun (j, E, m, c, q) h2 => j ≤ i ∧ Row h' h2 E m c q ∧ q ++ flR (l.drop j) = flR l) (fun (j, _, _, _, _) => i - j) (0, none, 0, 0, []) (fun _ => rfl) ⟨Nat.zero_le _, Row.nil h', rfl⟩ rfl rfl rfl ?_
      rintro ⟨j, E, m, c, q⟩ e h2 ⟨hj, hq, he⟩
      refine .done ?_
      conv => whnf
      refine br_dec (fun h3 => ?_) (fun h3 => ?_)
      · have hj' : j < l.length := by omega
        obtain ⟨g, hg⟩ := hz.ad (by omega)
        have hpos := bad_in e1 hj'
        rw [List.drop_eq_getElem_cons hj'] at he
        have hcell : ∀ k v, (zcell l[j])[k]? = some v → h2.cell? ((g.add (j * 2)).add k) = some v := fun k v hv => Hp.cell_le hq.le (hz.row hg (map_get hj') k v hv)
        generalize l[j] = r at he hpos hcell
        obtain ⟨x, t⟩ := r
        simp only [flR] at he hpos
        obtain ⟨z, rfl⟩ : ∃ z : Nat, t = z := ⟨t.toNat, by omega⟩
        rw [Int.toNat_natCast] at he
        have hlen : ∀ {q : List Int} {k}, q ++ (rep k [x] ++ flR (l.drop (j + 1))) = flR l → q.length + k ≤ 2048 := fun {q k} hh => by
          have := congrArg List.length hh
          simp only [List.length_append, rep_len, List.length_singleton] at this
          omega
        have hz2 := hlen he
        conv => whnf
        refine .mk g hg (by omega) (by omega) ?_
        conv => whnf
        refine .hp (zcell (x, z)) rfl (by rw [Int.toNat_natCast]; exact hcell) ?_
        conv => whnf
        refine .mkS [0] (Nat × Option Addr × Nat × Nat × List Int) [7, 9, 38, 39, 40, 45, 46] (fun (k, E, m, c, _) => [.v (.slice E m c), .p 0 0, .v (.slice D i cap), .v (iv i), .v (iv j), .v (iv z), .v (iv k)]) (fun _ => [.own ((zcell (x, z)).map .v) 52])
          (fun (k, E, m, c, q) h2 => k ≤ z ∧ Row h' h2 E m c q ∧ q ++ (rep (z - k) [x] ++ flR (l.drop (j + 1))) = flR l) (fun (k, _, _, _, _) => z - k) (0, E, m, c, q) (fun _ => rfl) ⟨Nat.zero_le _, hq, he⟩ rfl rfl rfl ?_
        rintro ⟨k, E, m, c, q⟩ e h2 ⟨hk, hq, he⟩
        refine .done ?_
        conv => whnf
        refine br_dec (fun h4 => ?_) (fun h4 => ?_)
        · have hkz : k < z := by omega
          have hl2 := hlen he
          rw [show z - k = (z - (k + 1)) + 1 by omega, rep, List.append_assoc, ← List.append_assoc] at he
          have hm := hq.n
          conv => whnf
          refine .abs 3 1 E m c _ hq.row (.done (.old 2 _ [iv x] rfl rfl (numsv_one [x]) (by simp [maxLen]; omega) (by omega) fun E2 c2 hE2 => ?_))
          conv => whnf
          refine .ok (by omega) (by omega) ?_
          conv => whnf
          exact .pub 2 3 1 E2 (m + 1) c2 _ rfl fun h4 l4 hro hf => .done ⟨(k + 1, E2, m + 1, c2, q ++ [x]), rfl, rfl, ⟨hkz, hq.step (Hp.le_refl _) l4 hro hf, he⟩, by show z - (k + 1) < z - k; omega⟩
        · obtain rfl : k = z := by omega
          rw [Nat.sub_self, rep, List.nil_append] at he
          conv => whnf
          refine .ok (by omega) (by omega) ?_
          conv => whnf
          exact .done ⟨(j + 1, E, m, c, q), rfl, rfl, ⟨by omega, hq, he⟩, by show i - (j + 1) < i - j; omega⟩
      · obtain rfl : j = i := by omega
        rw [List.drop_of_length_le (by omega)] at he
        conv => whnf
        refine .done ⟨E, m, c, ?_, ?_⟩
        · rw [hfe]; rfl
        · unfold outR
          rw [if_pos hfe, ← he, show q ++ flR [] = q from List.append_nil q]
          exact hq
end Go.Sx
