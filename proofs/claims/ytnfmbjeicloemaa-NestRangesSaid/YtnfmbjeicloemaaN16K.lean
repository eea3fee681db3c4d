/- A nest's firings: the document's answer. Conditions: none. -/
import Derived.Test.YtnfmbjeicloemaaN16J
namespace Go.Sx
open Go.Proofs
/-- a list under way -/
structure Row (h h' : Hp) (D : Option Addr) (n c : Nat) (q : List Int) : Prop where
  le : h.le h'
  row : RowAt h' 3 1 D n c (q.map iv)
  fr : ∀ g, D = some g → h g.block = none
theorem Row.nil (h : Hp) : Row h h none 0 0 [] := ⟨Hp.le_refl h, ⟨rfl, .inl ⟨rfl, rfl, rfl⟩⟩, fun _ e => by cases e⟩
theorem Row.n {h h' : Hp} {D : Option Addr} {n c : Nat} {q : List Int} (x : Row h h' D n c q) : n = q.length := row_n x.row
theorem Row.step {h h' h2 h3 : Hp} {D D2 : Option Addr} {n c n2 c2 : Nat} {q w : List Int} (x : Row h h' D n c q) (l2 : h'.le h2) (l3 : (delA h2 D).le h3) (hr : RowAt h3 3 1 D2 n2 c2 (q.map iv ++ w.map iv)) (hf : ∀ g, D2 = some g → delA h2 D g.block = none) : Row h h3 D2 n2 c2 (q ++ w) := by
  have hA : h.le (delA h2 D) := delA_none (Hp.le_trans x.le l2) x.fr
  exact ⟨Hp.le_trans hA l3, by rw [List.map_append]; exact hr, fun g e => Hp.none_le hA (hf g e)⟩
theorem RowAt.del {h : Hp} {ety size n cap : Nat} {A B : Option Addr} {xs : List Value} (x : RowAt h ety size A n cap xs) (hd : ∀ g g', A = some g → B = some g' → g.block ≠ g'.block) : RowAt (delA h B) ety size A n cap xs := by
  obtain ⟨h1, h2⟩ := x
  refine ⟨h1, ?_⟩
  rcases h2 with h2 | ⟨b, cur, e1, e2, e3⟩
  · exact .inl h2
  · refine .inr ⟨b, cur, e1, ?_, e3⟩
    cases B with
    | none => exact e2
    | some g' => rw [delA, Hp.del_ne _ (hd _ g' e1 rfl)]; exact e2
theorem RowAt.mem {h : Hp} {ety size n cap : Nat} {A : Option Addr} {xs : List Value} (x : RowAt h ety size A n cap xs) {g : Addr} (hg : A = some g) : h g.block ≠ none := by
  rcases x.2 with ⟨h1, _⟩ | ⟨b, cur, h1, h2, _⟩
  · rw [hg] at h1; cases h1
  · rw [hg] at h1; injection h1 with h1; subst h1; rw [h2]; simp
theorem flat_nums (q : List Int) : (q.map fun z => [iv z]).flatten = q.map iv := by induction q with
  | nil => rfl
  | cons z q ih => simp_all
theorem RowAt.nums {h : Hp} {n c : Nat} {D : Option Addr} {q : List Int} (x : RowAt h 3 1 D n c (q.map iv)) : Tab h 1 D n (q.map fun z => [iv z]) := by
  refine RowAt.tab (ety := 3) (cap := c) ?_ (ints_wid q) (by decide)
  rw [flat_nums]; exact x
theorem flat44 : ∀ (N : Nat) (l : Lo), l.cnt < N → l.cnt ≤ 200000 → Pos l.fo → tot l.fo ≤ 2048 → ∀ (A : Option Addr) (m cap : Nat) (h : Hp), SAt h A m l →
    Fn Try.prog 44 #[.slice A m cap] h fun v h' => ∃ D n c, v = .slice D n c ∧ Row h h' D n c (flat l.fo)
  | 0, l, hN, _ => absurd hN (Nat.not_lt_zero _)
  | N + 1, l, hN, hc0 => by
    intro hpos htot A m cap h hs
    have hm : m ≤ 200000 := by have := hs.1; have := l.len_cnt; omega
    have hfl : (flat l.fo).length ≤ 2048 := by rw [flat_len]; exact htot
    refine Fn.intro (args := [.slice A m cap]) mix16 Try.func44 rfl (by decide) Try.ntmps44 rfl (low44 rfl) rfl ?_
    conv => whnf
    refine .mkS [] (Nat × Option Addr × Nat × Nat × List Int × Lo) [0, 3, 4] (fun (i, D, n, c, _, _) => [.v (.slice A m cap), .v (.slice D n c), .v (iv i)]) (fun _ => [])
        (fun (i, D, n, c, q, r) h' => Row h h' D n c q ∧ Tl h A m i r ∧ r.cnt ≤ l.cnt ∧ Pos r.fo ∧ tot r.fo ≤ 2048 ∧ q ++ flat r.fo = flat l.fo) (fun (i, _, _, _, _, _) => m - i) (0, none, 0, 0, [], l) (fun _ => rfl) ⟨Row.nil h, hs.tl, Nat.le_refl _, hpos, htot, rfl⟩ rfl rfl rfl ?_
    rintro ⟨i, D, n, c, q, r⟩ e h' ⟨hq, ht, hrl, hp, htt, he⟩
    refine .done ?_
    conv => whnf
    refine br_dec (fun h2 => ?_) (fun h2 => ?_)
    · cases r with
      | nil => have := ht.fin; omega
      | cons t w B m' cc b r =>
        obtain ⟨g, hA, hi, hc, hb, hr⟩ := ht.open
        have hbm := hb.1
        simp only [Lo.cnt] at hrl
        simp only [Lo.fo] at hp htt he
        obtain ⟨b1, b2, b3⟩ := tot_body hp htt
        obtain ⟨hp1, hp2, hp3⟩ := hp
        obtain ⟨z, rfl⟩ : ∃ z : Nat, t = z := ⟨t.toNat, by omega⟩
        rw [Int.toNat_natCast] at b1
        have hlf := b.leaf_len
        obtain ⟨inner, hin⟩ : ∃ inner, inner = bif b.fo.leaf then [w] else flat b.fo := ⟨_, rfl⟩
        simp only [flat, Int.toNat_natCast] at he
        rw [← hin] at he
        have c0 : ∀ h', h.le h' → h'.cell? ((g.add (i * 3)).add 0) = some (iv z) := fun h' x => Hp.cell_le x (hc 0 _ rfl)
        have c1 : h'.cell? ((g.add (i * 3)).add 1) = some (iv w) := Hp.cell_le hq.le (hc 1 _ rfl)
        have c2 : h'.cell? ((g.add (i * 3)).add 2) = some (.slice B m' cc) := Hp.cell_le hq.le (hc 2 _ rfl)
        have hlen : ∀ {q k}, q ++ (rep k inner ++ flat r.fo) = flat l.fo → q.length ≤ 2048 := fun {q k} hh => by
          have := congrArg List.length hh
          simp only [List.length_append] at this
          omega
        conv => whnf
        refine .mk g hA (by omega) (by omega) ?_
        conv => whnf
        refine .hp (iv w) (by rw [Int.toNat_natCast]; exact c1) ?_
        conv => whnf
        refine .mk g hA (by omega) (by omega) ?_
        conv => whnf
        refine .hp (.slice B m' cc) (by rw [Int.toNat_natCast]; exact c2) ?_
        conv => whnf
        refine br_dec (fun h4 => ?_) (fun h4 => ?_)
        · have hlf2 : b.fo.leaf = false := by rw [hlf]; exact decide_eq_false (by omega)
          rw [hlf2, cond_false] at hin
          subst hin
          have hbt : tot b.fo ≤ 2048 := by unfold ins at b2; rw [hlf2, cond_false] at b2; exact b2
          conv => whnf
          refine .mk g hA (by omega) (by omega) ?_
          conv => whnf
          refine .hp (.slice B m' cc) (by rw [Int.toNat_natCast]; exact c2) ?_
          conv => whnf
          refine .done (.mk _ (flat44 N b (by omega) (by omega) hp2 hbt B m' cc h' (hb.mono hq.le)) ?_)
          rintro _ h2 ⟨E, n1, c1, rfl, hE⟩
          have hq2 : Row h h2 D n c q := ⟨Hp.le_trans hq.le hE.le, hq.row.mono hE.le, hq.fr⟩
          have hde : ∀ g g', E = some g → D = some g' → g.block ≠ g'.block := fun g g' e1 e2 eq => by
            have := hE.fr g e1
            rw [eq] at this
            exact hq.row.mem e2 this
          have hfle : (flat b.fo).length ≤ 2048 := by rw [flat_len]; exact hbt
          have hn1 := hE.n
          conv => whnf
          refine .mkS [] (Nat × Option Addr × Nat × Nat × List Int) [0, 3, 4, 5, 6] (fun (k, D, n, c, _) => [.v (.slice A m cap), .v (.slice D n c), .v (iv i), .v (.slice E n1 c1), .v (iv k)]) (fun _ => [])
            (fun (k, D, n, c, q) h' => Row h h' D n c q ∧ RowAt h' 3 1 E n1 c1 ((flat b.fo).map iv) ∧ (∀ g g', E = some g → D = some g' → g.block ≠ g'.block) ∧ k ≤ z ∧ q ++ (rep (z - k) (flat b.fo) ++ flat r.fo) = flat l.fo) (fun (k, _, _, _, _) => z - k) (0, D, n, c, q) (fun _ => rfl) ⟨hq2, hE.row, hde, Nat.zero_le _, he⟩ rfl rfl rfl ?_
          rintro ⟨k, D, n, c, q⟩ e h' ⟨hq, hE, hde, hk, he⟩
          refine .done ?_
          conv => whnf
          refine .mk g hA (by omega) (by omega) ?_
          conv => whnf
          refine .hp (iv z) (by rw [Int.toNat_natCast]; exact c0 _ hq.le) ?_
          conv => whnf
          refine br_dec (fun h3 => ?_) (fun h3 => ?_)
          · have hkz : k < z := by omega
            rw [show z - k = (z - (k + 1)) + 1 by omega, rep, List.append_assoc, ← List.append_assoc] at he
            have hl2 := hlen he
            rw [List.length_append] at hl2
            have hn := hq.n
            have hE2 := hE.del (B := D) hde
            conv => whnf
            refine .abs 3 1 D n c _ hq.row (.done (.old 0 _ ((flat b.fo).map iv) rfl (by have t := hE2.nums.src ([] ++ [LE.row 3 1 D n c (q.map iv)]); rw [flat_nums] at t; exact t) (numsv_one _) (by simp [maxLen]; omega) (by omega) fun D2 c2 hD2 => ?_))
            conv => whnf
            refine .ok (by omega) (by omega) ?_
            conv => whnf
            refine .pub 0 3 1 D2 (n + n1) c2 _ rfl fun h4 l4 hro hf => .done ⟨(k + 1, D2, n + n1, c2, q ++ flat b.fo), rfl, rfl, ⟨hq.step (Hp.le_refl _) l4 hro hf, hE2.mono l4, fun ga gb e1 e2 eq => ?_, hkz, he⟩, by show z - (k + 1) < z - k; omega⟩
            have := hf gb e2
            rw [← eq] at this
            exact hE2.mem e1 this
          · obtain rfl : k = z := by omega
            rw [Nat.sub_self, rep, List.nil_append] at he
            conv => whnf
            refine .ok (by omega) (by omega) ?_
            conv => whnf
            exact .done ⟨(i + 1, D, n, c, q, r), rfl, rfl, ⟨hq, hr, by omega, hp3, b3, he⟩, by show m - (i + 1) < m - i; omega⟩
        · have hlf2 : b.fo.leaf = true := by rw [hlf]; exact decide_eq_true (by omega)
          rw [hlf2, cond_true] at hin
          subst hin
          conv => whnf
          refine .mkS [0] (Nat × Option Addr × Nat × Nat × List Int) [0, 3, 4, 5, 6] (fun (k, D, n, c, _) => [.v (.slice A m cap), .v (.slice D n c), .v (iv i), .s 0 0 1 1, .v (iv k)]) (fun _ => [.own [.v (iv w)] 3])
            (fun (k, D, n, c, q) h' => Row h h' D n c q ∧ k ≤ z ∧ q ++ (rep (z - k) [w] ++ flat r.fo) = flat l.fo) (fun (k, _, _, _, _) => z - k) (0, D, n, c, q) (fun _ => rfl) ⟨hq, Nat.zero_le _, he⟩ rfl rfl rfl ?_
          rintro ⟨k, D, n, c, q⟩ e h' ⟨hq, hk, he⟩
          refine .done ?_
          conv => whnf
          refine .mk g hA (by omega) (by omega) ?_
          conv => whnf
          refine .hp (iv z) (by rw [Int.toNat_natCast]; exact c0 _ hq.le) ?_
          conv => whnf
          refine br_dec (fun h3 => ?_) (fun h3 => ?_)
          · have hkz : k < z := by omega
            rw [show z - k = (z - (k + 1)) + 1 by omega, rep, List.append_assoc, ← List.append_assoc] at he
            have hl2 := hlen he
            rw [List.length_append] at hl2
            have hn := hq.n
            conv => whnf
            refine .abs 3 1 D n c _ hq.row (.done (.old 1 _ [iv w] rfl rfl (numsv_one [w]) (by simp [maxLen]; omega) (by omega) fun D2 c2 hD2 => ?_))
            conv => whnf
            refine .ok (by omega) (by omega) ?_
            conv => whnf
            exact .pub 1 3 1 D2 (n + 1) c2 _ rfl fun h4 l4 hro hf => .done ⟨(k + 1, D2, n + 1, c2, q ++ [w]), rfl, rfl, ⟨hq.step (Hp.le_refl _) l4 hro hf, hkz, he⟩, by show z - (k + 1) < z - k; omega⟩
          · obtain rfl : k = z := by omega
            rw [Nat.sub_self, rep, List.nil_append] at he
            conv => whnf
            refine .ok (by omega) (by omega) ?_
            conv => whnf
            exact .done ⟨(i + 1, D, n, c, q, r), rfl, rfl, ⟨hq, hr, by omega, hp3, b3, he⟩, by show m - (i + 1) < m - i; omega⟩
    · conv => whnf
      cases r with
      | nil =>
        refine .done ⟨D, n, c, rfl, ?_⟩
        rw [← he, show q ++ flat Lo.nil.fo = q from List.append_nil q]
        exact hq
      | cons => obtain ⟨g, hA, hi, _⟩ := ht.open; omega
theorem expand23 (l : Lo) (hc : l.cnt ≤ 200000) (A : Option Addr) (m cap : Nat) (h : Hp) (hs : SAt h A m l) :
    Fn Try.prog 23 #[.slice A m cap] h fun v h' => ∃ D n c, v = .tuple #[.slice D n c, iv (checkF l.fo)] ∧ Row h h' D n c (expF l.fo) := by
  refine Fn.intro (args := [.slice A m cap]) mix16 Try.func23 rfl (by decide) Try.ntmps23 rfl (low23 rfl) rfl ?_
  conv => whnf
  refine .done (.mk _ (check18 l hc A m cap h hs) ?_)
  rintro _ h1 ⟨rfl, rfl⟩
  conv => whnf
  refine br_dec (fun h2 => ?_) (fun h2 => ?_)
  · conv => whnf
    refine .done ⟨none, 0, 0, rfl, ?_⟩
    unfold expF
    rw [if_neg h2]
    exact Row.nil h1
  · have h2 : checkF l.fo = 0 := Decidable.of_not_not h2
    obtain ⟨k1, k2⟩ := checkF_pos h2
    rw [h2]
    conv => whnf
    refine .done (.mk _ (flat44 _ l (Nat.lt_succ_self _) hc k1 k2 A m cap h1 hs) ?_)
    rintro _ h3 ⟨D, n, c, rfl, hr⟩
    conv => whnf
    refine .done ⟨D, n, c, rfl, ?_⟩
    unfold expF
    rw [if_pos h2]
    exact hr
end Go.Sx
