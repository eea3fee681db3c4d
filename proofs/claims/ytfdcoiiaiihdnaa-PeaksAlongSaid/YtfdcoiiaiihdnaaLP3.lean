/- PeaksAlong: the law's own function answers true. Conditions: none. -/
import Derived.Test.YtfdcoiiaiihdnaaLP4
namespace Go.Sx
open Go.Proofs
/-- the blocks of the rows of two lists of rows -/
def blk2 (k : Nat) (J J' : Nat → Addr × Nat) (i : Nat) : Addr × Nat := if i < k then J i else J' (i - k)
theorem rowCells_two (n k : Nat) (J J' : Nat → Addr × Nat) : rowCells n J k ++ rowCells n J' k = rowCells n (blk2 k J J') (k + k) := by
  unfold rowCells
  rw [List.range_add, List.map_append, List.map_map]
  congr 1
  · exact List.map_congr_left fun i hi => by simp only [blk2]; rw [if_pos (List.mem_range.1 hi)]
  · exact List.map_congr_left fun i _ => by simp only [blk2, Function.comp]; rw [if_neg (by omega), Nat.add_sub_cancel_left]
theorem rowCells_src {h : Hp} {n k c : Nat} {A : Option Addr} {J : Nat → Addr × Nat} {L : List LE} (x : RowAt h 25 1 A k c (rowCells n J k)) : Src L h 1 A k (rowCells n J k) := by
  have e : rowCells n J k = ((List.range k).map fun i => [Value.slice (some (J i).1) n (J i).2]).flatten := by
    have : ∀ l : List Nat, l.map (fun i => Value.slice (some (J i).1) n (J i).2) = (l.map fun i => [Value.slice (some (J i).1) n (J i).2]).flatten := by
      intro l
      induction l with
      | nil => rfl
      | cons x l ih => rw [List.map_cons, List.map_cons, List.flatten_cons, ih]; rfl
    exact this _
  rw [e] at x
  have t : Tab h 1 A k _ := x.tab (fun r hr => by obtain ⟨i, _, rfl⟩ := List.mem_map.1 hr; rfl) (by decide)
  have := t.src (L := L)
  rw [← e] at this
  exact this
theorem rowCells_one (n k : Nat) (J : Nat → Addr × Nat) : ∀ u ∈ rowCells n J k, u.oneCell' = true := by
  intro u hu
  obtain ⟨i, _, rfl⟩ := List.mem_map.1 hu
  rfl
theorem rowCells_tab {h : Hp} {n k c : Nat} {A : Option Addr} {J : Nat → Addr × Nat} (x : RowAt h 25 1 A k c (rowCells n J k)) : Tab h 1 A k ((List.range k).map fun i => [Value.slice (some (J i).1) n (J i).2]) := by
  have e : rowCells n J k = ((List.range k).map fun i => [Value.slice (some (J i).1) n (J i).2]).flatten := by
    have : ∀ l : List Nat, l.map (fun i => Value.slice (some (J i).1) n (J i).2) = (l.map fun i => [Value.slice (some (J i).1) n (J i).2]).flatten := by
      intro l
      induction l with
      | nil => rfl
      | cons x l ih => rw [List.map_cons, List.map_cons, List.flatten_cons, ih]; rfl
    exact this _
  rw [e] at x
  exact x.tab (fun r hr => by obtain ⟨i, _, rfl⟩ := List.mem_map.1 hr; rfl) (by decide)
theorem pick_two {L : List LE} {a b : LE} (h : L.take 2 = [a, b]) (ha : renLE [0, 1] a = a := by rfl) (hb : renLE [0, 1] b = b := by rfl) : pickL L [0, 1] = some ([a, b].map (renLE [0, 1])) := by
  match L, h with
  | x :: y :: L, h =>
    injection h with h1 h2
    injection h2 with h2 _
    subst h1; subst h2
    rw [List.map_cons, List.map_cons, ha, hb]
    rfl
  | [x], h => injection h with _ h; cases h
  | [], h => cases h
theorem updL_self' : ∀ (slots : List Nat) (e : Env), updL e slots (slots.map e) = e
  | [], e => rfl
  | d :: ds, e => by
    have h1 : upd e d (e d) = e := by
      funext t
      unfold upd
      cases hb : Nat.beq t d with
      | true => rw [Nat.eq_of_beq_eq_true hb]; rfl
      | false => rfl
    rw [List.map_cons, updL, h1]
    exact updL_self' ds e
theorem Hp.on_out {h : Hp} {S : Nat → Prop} {j : Nat} (hj : ¬ S j) : h.on S j = none := by unfold Hp.on; rw [if_neg hj]
theorem l2P3 (Q : Post) (e : Env) (L : List LE) (h G : Hp) (N : Int) (A A1 D D2 B4 : Option Addr) (n cap c1 r cap2 k4 c4 : Nat) (k c0 : Nat) (A0 : Option Addr) (hk : k ≤ 4096)
    (he : [1, 2, 5, 6, 7, 9, 15].map e = [.v (.slice D r cap2), .p 0 0, .p 1 0, .v (.slice D2 r (r + 4)), .v (.slice A0 k c0), .v (.slice B4 k4 c4), .v (iv (0 : Nat))]) (hL : L.take 2 = [.own [.v (iv N), .v (.slice A n cap)] 24, .own [.v (iv N), .v (.slice A1 n c1)] 24])
    (hG : G.le h) (hrow : ∃ xs, RowAt h 25 1 A0 k c0 xs) (hfr : ∀ g, A0 = some g → G g.block = none)
    (hQ : ∀ e h', G.le h' → [1, 2, 5, 6, 9].map e = [.v (.slice D r cap2), .p 0 0, .p 1 0, .v (.slice D2 r (r + 4)), .v (.slice B4 k4 c4)] → Q (.exit 2) e [.own [.v (iv N), .v (.slice A n cap)] 24, .own [.v (iv N), .v (.slice A1 n c1)] 24] h') :
    EvLoop (fun Q e L h => wpIR Try.prog 111 ir3_l2 Q e L h) Q e L h := by
  refine .mkS [0, 1] (Nat × Option Addr × Nat) [1, 2, 5, 6, 7, 9, 15] (fun (q, A', c') => [.v (.slice D r cap2), .p 0 0, .p 1 0, .v (.slice D2 r (r + 4)), .v (.slice A' (k + q) c'), .v (.slice B4 k4 c4), .v (iv q)])
    (fun _ => [.own [.v (iv N), .v (.slice A n cap)] 24, .own [.v (iv N), .v (.slice A1 n c1)] 24]) (fun (q, A', c') h' => q ≤ 16 ∧ G.le h' ∧ (∃ xs, RowAt h' 25 1 A' (k + q) c' xs) ∧ ∀ g, A' = some g → G g.block = none) (fun (q, _, _) => 16 - q) (0, A0, c0) (fun (_, _, _) => rfl) ⟨Nat.zero_le _, hG, hrow, hfr⟩ he rfl ?_ ?_
  · exact pick_two hL
  rintro ⟨q, A', c'⟩ e2 h' ⟨hq, hG, ⟨xs, hro⟩, hfr⟩
  refine .done ?_
  conv => whnf
  refine br_dec (fun u1 => ?_) (fun u1 => ?_)
  · have hq' : q < 16 := by omega
    conv => whnf
    refine .mk fun bz hbz => ?_
    conv => whnf
    refine .abs 25 1 A' (k + q) c' xs (hro.mono (Hp.le_put hbz)) (.done (.old 4 _ [.slice (some ⟨bz, 0, none⟩) 1 1] rfl rfl (by simp; rfl) (by simp [maxLen]; omega) (by omega) fun A2 c2 _ => ?_))
    conv => whnf
    refine .ok (by omega) (by omega) ?_
    conv => whnf
    have hGp := hG.trans' (Hp.le_put (o := .cells #[iv (-7)] 3 (0, 0)) hbz)
    refine .pub 4 25 1 A2 (k + q + 1) c2 _ rfl fun h3 hle3 hr3 hf3 => .done ⟨(q + 1, A2, c2), rfl, rfl, ⟨hq', Hp.le_trans (delA_none hGp hfr) hle3, ⟨_, hr3⟩, fun g hg => le_none (delA_none hGp hfr) (hf3 g hg)⟩, by show 16 - (q + 1) < 16 - q; omega⟩
  · conv => whnf
    exact hQ _ h' hG rfl
theorem lawP3 (N : Int) (A D : Option Addr) (n r cap cap2 : Nat) (arcs : List Arc) (zs : List Int) (h : Hp) (ht : Tab h 5 A n (arcs.map Arc.cells)) (hz : Tab h 1 D r (zs.map fun z => [iv z]))
    (hn : n * 40 ≤ 140737488355328) (hr : r * 8 ≤ 140737488355328) :
    Fn Try.prog 3 #[netV N A n cap, .slice D r cap2] h fun v h' => v = .bool true ∧ h.le h' := by
  obtain rfl : arcs.length = n := by simpa using ht.len
  refine Fn.intro (args := [netV N A arcs.length cap, .slice D r cap2]) mix14 Try.func3 rfl (by decide) Try.ntmps3 rfl (low3 rfl) rfl ?_
  conv => whnf
  refine .done (.mk _ (lentNet10 N A arcs.length cap arcs h ht hn) ?_)
  rintro _ h1 ⟨l1, A1, c1, rfl, t1⟩
  conv => whnf
  refine .done (.mk _ (lent11 D r cap2 zs h1 (hz.mono l1) hr) ?_)
  rintro _ h2 ⟨l2, D2, rfl, t2⟩
  have t1 := t1.mono l2
  have ll2 := l1.trans' l2
  conv => whnf
  refine .done (.mk _ (along12 N arcs.length c1 arcs A1 D2 r (r + 4) zs h2 t1.tab (by omega) t2.tab) ?_)
  rintro v3 h3 ⟨l3, b3, g3⟩
  by_cases he : (along N arcs zs).1 = 0
  · obtain ⟨v3, X3, rfl, ⟨B3, c3, J3, rfl, q3⟩, x3, d3⟩ := g3 he
    have hs := (along_parts he).1
    have hNb := chk_zero hs
    have hsz := along_size N arcs zs
    have hne := along_ne he
    conv => whnf
    refine .done (.mk _ (along12 N arcs.length c1 arcs A1 D2 r (r + 4) zs h3 (t1.mono l3).tab (by omega) (t2.mono l3).tab) ?_)
    rintro v4 h4 ⟨l4, b4, g4⟩
    obtain ⟨v4, X4, rfl, ⟨B4, c4, J4, rfl, q4⟩, x4, d4⟩ := g4 he
    have ll4 := ll2.trans' (l3.trans' l4)
    conv => whnf
    refine .done (.mk _ (along13 N arcs.length cap arcs A D r cap2 zs h4 (ht.mono ll4) (by omega) (hz.mono ll4)) ?_)
    rintro v5 h5 ⟨l5, _, g5⟩
    obtain ⟨B5, c5, J5, rfl, t5⟩ := g5 he
    generalize hrows : (along N arcs zs).2 = rows at *
    have hrn : rows.length ≠ 0 := fun q => hne (List.eq_nil_of_length_eq_zero q)
    have x35 := x3.trans' (l4.trans' l5)
    have x45 := x4.trans' l5
    have hsm : ∀ i, i < rows.length → (rows.getD i []).length ≤ 9223372036854775806 := fun i hi => by
      rw [q3.lens i hi]; omega
    conv => whnf
    refine .done (.mk _ (sameLists14 B3 B5 c3 c5 rows rows _ _ h5 (q3.lists.mono x35) t5 (by omega) hsm) ?_)
    rintro _ h5 ⟨rfl, rfl⟩
    rw [decide_eq_true rfl]
    conv => whnf
    refine .done (.mk _ (sameLists14 B4 B5 c4 c5 rows rows _ _ h5 (q4.lists.mono x45) t5 (by omega) hsm) ?_)
    rintro _ h5 ⟨rfl, rfl⟩
    rw [decide_eq_true rfl]
    have o3 := q3.outer.mono x35
    have o4 := q4.outer.mono x45
    conv => whnf
    refine .done (.fresh _ rfl rfl rfl (rowCells_src o3) (rowCells_one _ _ _) (by simp [maxLen]; omega) (by omega) fun E1 e1 _ => ?_)
    conv => whnf
    refine .done (.old 2 _ _ rfl (rowCells_src o4) (rowCells_one _ _ _) (by simp [maxLen]; omega) (by omega) fun E2 e2 hE2 => ?_)
    rw [rowCells_two]
    conv => whnf
    have hE2s : ∃ gE, E2 = some gE := by
      cases E2 with
      | none => exact absurd ((hE2.1.1 rfl).2) hrn
      | some gE => exact ⟨gE, rfl⟩
    obtain ⟨gE, rfl⟩ := hE2s
    have g3s : ∃ g, B3 = some g := by
      rcases q3.outer.2 with ⟨_, q, _⟩ | ⟨b, _, q, _⟩
      · exact absurd q hrn
      · exact ⟨_, q⟩
    obtain ⟨gA, rfl⟩ := g3s
    have g4s : ∃ g, B4 = some g := by
      rcases q4.outer.2 with ⟨_, q, _⟩ | ⟨b, _, q, _⟩
      · exact absurd q hrn
      · exact ⟨_, q⟩
    obtain ⟨gB, rfl⟩ := g4s
    have dd : ∀ j, X3 j ≠ none → X4 j = none := fun j hj => by
      cases q : X4 j with
      | none => rfl
      | some o => exact absurd (le_none x3 (d4 j (by rw [q]; simp))) hj
    have m3 : ∀ i, i < rows.length → X3 (J3 i).1.block ≠ none := fun i hi => (q3.inner i hi).mem rfl
    have m4 : ∀ i, i < rows.length → X4 (J4 i).1.block ≠ none := fun i hi => (q4.inner i hi).mem rfl
    have mA : X3 gA.block ≠ none := q3.outer.mem rfl
    have mB : X4 gB.block ≠ none := q4.outer.mem rfl
    refine .pub 2 25 1 (some gE) (rows.length + rows.length) e2 _ rfl fun h6 l6 r6 f6 => ?_
    have r6 : RowAt h6 25 1 (some gE) (rows.length + rows.length) e2 (rowCells arcs.length (blk2 rows.length J3 J4) (rows.length + rows.length)) := r6
    have fE := f6 gE rfl
    have eJ1 : ∀ i, i < rows.length → blk2 rows.length J3 J4 i = J3 i := fun i hi => by unfold blk2; rw [if_pos hi]
    have eJ2 : ∀ i, rows.length ≤ i → blk2 rows.length J3 J4 i = J4 (i - rows.length) := fun i hi => by unfold blk2; rw [if_neg (by omega)]
    have inn : ∀ i, i < rows.length + rows.length → ∃ l : List Int, RowAt h5 3 1 (some (blk2 rows.length J3 J4 i).1) arcs.length (blk2 rows.length J3 J4 i).2 (l.map iv) := fun i hi => by
      by_cases e : i < rows.length
      · rw [eJ1 i e]; exact ⟨_, (q3.inner i e).mono x35⟩
      · rw [eJ2 i (by omega)]; exact ⟨_, (q4.inner (i - rows.length) (by omega)).mono x45⟩
    have inj : ∀ i j, i < rows.length + rows.length → j < rows.length + rows.length → i ≠ j → (blk2 rows.length J3 J4 i).1.block ≠ (blk2 rows.length J3 J4 j).1.block := fun i j hi hj hij => by
      by_cases e1 : i < rows.length
      · rw [eJ1 i e1]
        by_cases e2 : j < rows.length
        · rw [eJ1 j e2]; exact q3.apart i j e1 e2 hij
        · rw [eJ2 j (by omega)]; exact fun q => m4 (j - rows.length) (by omega) (by rw [← q]; exact dd _ (m3 i e1))
      · rw [eJ2 i (by omega)]
        by_cases e2 : j < rows.length
        · rw [eJ1 j e2]; exact fun q => m4 (i - rows.length) (by omega) (by rw [q]; exact dd _ (m3 j e2))
        · rw [eJ2 j (by omega)]; exact q4.apart _ _ (by omega) (by omega) (by omega)
    have sE : ∀ i, i < rows.length + rows.length → gE.block ≠ (blk2 rows.length J3 J4 i).1.block := fun i hi q => by
      obtain ⟨l, hl⟩ := inn i hi
      exact hl.mem rfl (by rw [← q]; exact fE)
    have sA : ∀ i, i < rows.length + rows.length → gA.block ≠ (blk2 rows.length J3 J4 i).1.block := fun i hi => by
      by_cases e1 : i < rows.length
      · rw [eJ1 i e1]; exact q3.own i e1 gA rfl
      · rw [eJ2 i (by omega)]; exact fun q => m4 (i - rows.length) (by omega) (by rw [← q]; exact dd _ mA)
    have sB : ∀ i, i < rows.length + rows.length → gB.block ≠ (blk2 rows.length J3 J4 i).1.block := fun i hi => by
      by_cases e1 : i < rows.length
      · rw [eJ1 i e1]; exact fun q => mB (by rw [q]; exact dd _ (m3 i e1))
      · rw [eJ2 i (by omega)]; exact q4.own _ (by omega) gB rfl
    have sAB : gB.block ≠ gA.block := fun q => mB (by rw [q]; exact dd _ mA)
    have s2 : ∀ j, h2 j ≠ none → ∀ i, i < rows.length + rows.length → j ≠ (blk2 rows.length J3 J4 i).1.block := fun j hj i hi q => by
      by_cases e1 : i < rows.length
      · rw [eJ1 i e1] at q; exact hj (by rw [q]; exact d3 _ (m3 i e1))
      · rw [eJ2 i (by omega)] at q; exact hj (by rw [q]; exact Disj.mono l3 d4 _ (m4 (i - rows.length) (by omega)))
    have l26 : h2.le h6 := ((l3.trans' l4).trans' l5).trans' l6
    generalize hJJ : blk2 rows.length J3 J4 = J2 at *
    have fam : FamA (h6.on fun j => ∀ i, i < rows.length + rows.length → j ≠ (J2 i).1.block) h6 (rows.length + rows.length) (fun i => h6.on fun j => j = (J2 i).1.block) := by
      refine ⟨Hp.on_le _ _, fun i _ => Hp.on_le _ _, fun i hi j hj => ?_, fun i k hi hk hik j hj => ?_⟩
      · have hj := Hp.on_ne hj
        exact Hp.on_out fun q => q i hi hj
      · have hj := Hp.on_ne hj
        exact Hp.on_out fun q => inj i k hi hk hik (hj.symm.trans q)
    refine .done (.mk _ (apart15 (c0 := e2) (A0 := some gE) (fun i => (some (J2 i).1, arcs.length, (J2 i).2)) fam (rowCells_tab (r6.on fun g e => by injection e with e; subst e; exact sE)) (fun i hi => ?_) (by omega) (fun i _ => by show arcs.length ≤ 1000000; omega)) ?_)
    · obtain ⟨l, hl⟩ := inn i hi
      exact ⟨l, by have := hl.1; simpa using this, (hl.mono l6).on fun g e => by injection e with e; subst e; rfl⟩
    rintro _ h7 ⟨rfl, l7⟩
    have outA : RowAt h7 25 1 (some gA) rows.length c3 (rowCells arcs.length J3 rows.length) := ((o3.mono l6).on fun g e => by injection e with e; subst e; exact sA).mono l7
    have outB : RowAt (h6.on fun j => ∀ i, i < rows.length + rows.length → j ≠ (J2 i).1.block) 25 1 (some gB) rows.length c4 (rowCells arcs.length J4 rows.length) := (o4.mono l6).on fun g e => by injection e with e; subst e; exact sB
    have lB : h2.le (h6.on fun j => ∀ i, i < rows.length + rows.length → j ≠ (J2 i).1.block) := fun j o e => by
      rw [Hp.on_of (s2 j (by rw [e]; simp))]; exact l26 j o e
    generalize hBB : (h6.on fun j => ∀ i, i < rows.length + rows.length → j ≠ (J2 i).1.block) = B0 at *
    have lG : h2.le (B0.del gA.block) := fun j o e => by
      rw [Hp.del_ne _ (fun q => by rw [q, d3 _ mA] at e; cases e)]; exact lB j o e
    have outG : RowAt (B0.del gA.block) 25 1 (some gB) rows.length c4 (rowCells arcs.length J4 rows.length) := outB.del (B := some gA) fun g g' e1 e2 => by injection e1 with e1; injection e2 with e2; subst e1; subst e2; exact sAB
    have hG7 : (B0.del gA.block).le h7 := Hp.le_trans (Hp.del_le _ _) l7
    have hG0 : (B0.del gA.block) gA.block = none := Hp.del_same _ _
    generalize hGG : B0.del gA.block = G at *
    conv => whnf
    refine .mk Nat [1, 2, 5, 6, 7, 9, 14] (fun i => [.v (.slice D r cap2), .p 0 0, .p 1 0, .v (.slice D2 r (r + 4)), .v (.slice (some gA) rows.length c3), .v (.slice (some gB) rows.length c4), .v (iv i)])
      (fun _ => [.own [.v (iv N), .v (.slice A arcs.length cap)] 24, .own [.v (iv N), .v (.slice A1 arcs.length c1)] 24]) (fun i h' => i ≤ rows.length ∧ G.le h' ∧ ∃ xs, RowAt h' 25 1 (some gA) rows.length c3 xs) (fun i => rows.length - i) 0 (fun _ => rfl) ⟨Nat.zero_le _, hG7, _, outA⟩ rfl rfl ?_
    rintro i e8 h8 ⟨hi, hG8, xs8, ro8⟩
    conv => whnf
    refine br_dec (fun u1 => ?_) (fun u1 => ?_)
    · have hi' : i < rows.length := by omega
      obtain ⟨g, cs, cs', e1, e2, e3, e4⟩ := ro8.write (off := i) (by omega) (.slice none 0 0)
      injection e1 with e1
      subst e1
      conv => whnf
      refine .mk _ rfl (by omega) (by omega) ?_
      conv => whnf
      refine .hp g i 25 cs cs' (by rw [Int.toNat_natCast, add_lit, Nat.mul_one, Nat.zero_add]) e2 e3 ?_
      conv => whnf
      refine .ok (by omega) (by omega) ?_
      conv => whnf
      refine ⟨i + 1, rfl, rfl, ⟨hi', fun j o q => ?_, _, e4⟩, by omega⟩
      rw [Hp.put_ne _ _ (fun w => by subst w; rw [hG0] at q; cases q)]
      exact hG8 j o q
    conv => whnf
    refine l2P3 _ _ _ h8 G N A A1 D D2 (some gB) arcs.length cap c1 r cap2 rows.length c4 rows.length c3 (some gA) (by omega) rfl rfl hG8 ⟨_, ro8⟩ (fun g e => by injection e with e; subst e; exact hG0) fun e9 h9 hG9 he9 => ?_
    have hself := updL_self' [1, 2, 5, 6, 9] e9
    rw [he9] at hself
    rw [← hself]
    conv => whnf
    refine .mk Nat [1, 2, 5, 6, 9, 16] (fun i => [.v (.slice D r cap2), .p 0 0, .p 1 0, .v (.slice D2 r (r + 4)), .v (.slice (some gB) rows.length c4), .v (iv i)])
      (fun _ => [.own [.v (iv N), .v (.slice A arcs.length cap)] 24, .own [.v (iv N), .v (.slice A1 arcs.length c1)] 24]) (fun i h' => i ≤ rows.length ∧ h' = h9) (fun i => rows.length - i) 0 (fun _ => rfl) ⟨Nat.zero_le _, rfl⟩ rfl rfl ?_
    rintro i e10 h10 ⟨hi, rfl⟩
    conv => whnf
    refine br_dec (fun u1 => ?_) (fun u1 => ?_)
    · have hi' : i < rows.length := by omega
      conv => whnf
      refine .mk gB rfl (by omega) (by omega) ?_
      conv => whnf
      refine .hp (.slice (some (J4 i).1) arcs.length (J4 i).2) (by rw [Int.toNat_natCast]; exact (rowCells_tab (outG.mono hG9)).one rfl (map_range hi') rfl) ?_
      conv => whnf
      refine br_dec (fun q => (q rfl).elim) (fun _ => ?_)
      conv => whnf
      refine .ok (by omega) (by omega) ?_
      conv => whnf
      exact ⟨i + 1, rfl, rfl, ⟨hi', rfl⟩, by omega⟩
    have HL : h2.le h10 := lG.trans' hG9
    conv => whnf
    refine .done (.mk _ (awake16 _) ?_)
    rintro _ h13 ⟨rfl, l13⟩
    have l213 := HL.trans' l13
    conv => whnf
    refine .done (.mk _ (keptNet17 N N A1 A arcs.length c1 arcs.length cap arcs arcs h13 (t1.mono l213) (ht.mono (ll2.trans' l213)) (by omega) ⟨rfl, rfl⟩) ?_)
    rintro _ h14 ⟨rfl, rfl⟩
    conv => whnf
    refine .done (.mk _ (kept18 D2 D r cap2 zs h14 (t2.mono l213) (hz.mono (ll2.trans' l213)) hr) ?_)
    rintro _ h15 ⟨rfl, rfl⟩
    conv => whnf
    exact .done ⟨rfl, ll2.trans' l213⟩
  · obtain rfl := b3 he
    have hnil : ∀ h : Hp, ListsAt h none [] fun _ => (none, 0) := fun h => ⟨Tab.nil _ _ _, fun i hi => absurd hi (Nat.not_lt_zero i)⟩
    conv => whnf
    refine .done (.mk _ (along12 N arcs.length c1 arcs A1 D2 r (r + 4) zs h3 (t1.mono l3).tab (by omega) (t2.mono l3).tab) ?_)
    rintro v4 h4 ⟨l4, b4, g4⟩
    obtain rfl := b4 he
    have ll4 := ll2.trans' (l3.trans' l4)
    conv => whnf
    refine .done (.mk _ (along13 N arcs.length cap arcs A D r cap2 zs h4 (ht.mono ll4) (by omega) (hz.mono ll4)) ?_)
    rintro v5 h5 ⟨l5, b5, _⟩
    obtain rfl := b5 he
    conv => whnf
    refine br_dec (fun q => (q rfl).elim) (fun _ => ?_)
    conv => whnf
    refine br_dec (fun q => (q rfl).elim) (fun _ => ?_)
    conv => whnf
    refine .done (.mk _ (sameLists14 none none 0 0 [] [] _ _ h5 (hnil _) (hnil _) (by decide) (fun i hi => absurd hi (Nat.not_lt_zero i))) ?_)
    rintro _ h5 ⟨rfl, rfl⟩
    rw [decide_eq_true rfl]
    conv => whnf
    refine .done (.mk _ (sameLists14 none none 0 0 [] [] _ _ h5 (hnil _) (hnil _) (by decide) (fun i hi => absurd hi (Nat.not_lt_zero i))) ?_)
    rintro _ h5 ⟨rfl, rfl⟩
    rw [decide_eq_true rfl]
    conv => whnf
    refine .done (.fresh [] rfl rfl rfl (.nil rfl) (by simp) (by simp [maxLen]) (by decide) fun E1 e1 _ => ?_)
    conv => whnf
    refine .done (.old 2 _ [] rfl (.nil rfl) (by simp) (by simp [maxLen]) (by decide) fun E2 e2 hE2 => ?_)
    conv => whnf
    refine .pub 2 25 1 E2 (0 + 0) e2 _ rfl fun h6 l6 r6 _ => .done (.mk _ (apart15 (B := h6) (m := 0 + 0) (c0 := e2) (A0 := E2) (X := fun _ => Hp.empty) (fun _ => (none, 0, 0)) ⟨Hp.le_refl _, fun _ _ => Hp.le_empty _, fun _ _ j hj => absurd rfl hj, fun _ _ _ _ _ j hj => absurd rfl hj⟩ ⟨rfl, (fun r hr => by simp at hr), (fun q => absurd rfl q), fun g _ i r hr => by simp at hr⟩ (fun i hi => absurd hi (Nat.not_lt_zero i)) (by decide) (fun i hi => absurd hi (Nat.not_lt_zero i))) ?_)
    rintro _ h7 ⟨rfl, l7⟩
    conv => whnf
    refine .mk Nat [1, 2, 5, 6, 7, 9, 14] (fun i => [.v (.slice D r cap2), .p 0 0, .p 1 0, .v (.slice D2 r (r + 4)), .v (.slice none 0 0), .v (.slice none 0 0), .v (iv i)])
      (fun _ => [.own [.v (iv N), .v (.slice A arcs.length cap)] 24, .own [.v (iv N), .v (.slice A1 arcs.length c1)] 24]) (fun i h' => i ≤ 0 ∧ h' = h7) (fun i => 0 - i) 0 (fun _ => rfl) ⟨Nat.zero_le _, rfl⟩ rfl rfl ?_
    rintro i e8 h8 ⟨hi, rfl⟩
    conv => whnf
    refine l2P3 _ _ _ h8 h6 N A A1 D D2 none arcs.length cap c1 r cap2 0 0 0 0 none (by decide) rfl rfl l7 ⟨[], rfl, .inl ⟨rfl, rfl, rfl⟩⟩ (fun g e => by cases e) fun e9 h9 hG9 he9 => ?_
    have hself := updL_self' [1, 2, 5, 6, 9] e9
    rw [he9] at hself
    rw [← hself]
    conv => whnf
    refine .mk Nat [1, 2, 5, 6, 9, 16] (fun i => [.v (.slice D r cap2), .p 0 0, .p 1 0, .v (.slice D2 r (r + 4)), .v (.slice none 0 0), .v (iv i)])
      (fun _ => [.own [.v (iv N), .v (.slice A arcs.length cap)] 24, .own [.v (iv N), .v (.slice A1 arcs.length c1)] 24]) (fun i h' => i ≤ 0 ∧ h' = h9) (fun i => 0 - i) 0 (fun _ => rfl) ⟨Nat.zero_le _, rfl⟩ rfl rfl ?_
    rintro i e10 h10 ⟨hi, rfl⟩
    conv => whnf
    have HL : h2.le h10 := (((l3.trans' l4).trans' l5).trans' l6).trans' hG9
    conv => whnf
    refine .done (.mk _ (awake16 _) ?_)
    rintro _ h13 ⟨rfl, l13⟩
    have l213 := HL.trans' l13
    conv => whnf
    refine .done (.mk _ (keptNet17 N N A1 A arcs.length c1 arcs.length cap arcs arcs h13 (t1.mono l213) (ht.mono (ll2.trans' l213)) (by omega) ⟨rfl, rfl⟩) ?_)
    rintro _ h14 ⟨rfl, rfl⟩
    conv => whnf
    refine .done (.mk _ (kept18 D2 D r cap2 zs h14 (t2.mono l213) (hz.mono (ll2.trans' l213)) hr) ?_)
    rintro _ h15 ⟨rfl, rfl⟩
    conv => whnf
    exact .done ⟨rfl, ll2.trans' l213⟩
end Go.Sx
