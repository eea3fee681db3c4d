/- Layer 18: the document's most. Conditions: none. -/
import Derived.Test.YtfdcoiiaiihdnaaN18R
import Derived.Test.YtfdcoiiaiihdnaaC10
namespace Go.Sx
open Go.Proofs
/-- the greatest number at i of the first k rows, from 0 on -/
def topK (rows : List (List Int)) (i k : Nat) : Int := (rows.take k).foldl (fun a x => max a (x.getD i 0)) 0
theorem topK_step {rows : List (List Int)} {i k : Nat} (hk : k < rows.length) : topK rows i (k + 1) = max (topK rows i k) ((rows.getD k []).getD i 0) := by
  have e : rows.getD k [] = rows[k] := by rw [List.getD_eq_getElem?_getD, List.getElem?_eq_getElem hk]; rfl
  unfold topK
  rw [take_succ' hk, List.foldl_append, e]; rfl
theorem foldmax_ge : ∀ (rows : List (List Int)) (i : Nat) (a : Int), a ≤ rows.foldl (fun a x => max a (x.getD i 0)) a ∧ ∀ x ∈ rows, x.getD i 0 ≤ rows.foldl (fun a x => max a (x.getD i 0)) a
  | [], i, a => ⟨Int.le_refl _, by simp⟩
  | r :: rows, i, a => by
    obtain ⟨h1, h2⟩ := foldmax_ge rows i (max a (r.getD i 0))
    refine ⟨by simp only [List.foldl_cons]; omega, fun x hx => ?_⟩
    rcases List.mem_cons.1 hx with rfl | hx
    · simp only [List.foldl_cons]; omega
    · exact h2 x hx
theorem foldmax_le : ∀ (rows : List (List Int)) (i : Nat) (a M : Int), a ≤ M → (∀ x ∈ rows, x.getD i 0 ≤ M) → rows.foldl (fun a x => max a (x.getD i 0)) a ≤ M
  | [], i, a, M, h, _ => h
  | r :: rows, i, a, M, h, hx => foldmax_le rows i _ M (by have := hx r (by simp); show max a (r.getD i 0) ≤ M; omega) fun x hm => hx x (by simp [hm])
theorem topK_all {rows : List (List Int)} {n i : Nat} (hne : rows ≠ []) (hi : i < n) (hl : ∀ x ∈ rows, x.length = n) (h0 : ∀ x ∈ rows, 0 ≤ x.getD i 0) : topK rows i rows.length = (maxes rows).getD i 0 := by
  unfold topK
  rw [List.take_length]
  obtain ⟨x, hx, ex⟩ := maxes_hit hne hi hl
  have g1 := (foldmax_ge rows i 0).2 x hx
  have g2 := foldmax_le rows i 0 ((maxes rows).getD i 0) (by have := h0 x hx; omega) (maxes_ge hi hl)
  omega
theorem along_rows {N : Nat} {arcs : List Arc} {zs : List Int} (h : (along N arcs zs).1 = 0) : (∀ x ∈ (along N arcs zs).2, x.length = arcs.length) ∧ ∀ i, ∀ x ∈ (along N arcs zs).2, 0 ≤ x.getD i 0 := by
  have key : ∀ x ∈ (along N arcs zs).2, ∃ k, k ≤ zs.length ∧ x = toksOf arcs (endOf (zs.take k) (List.replicate N 0)) := fun x hx => by
    obtain ⟨k, hk, rfl⟩ := List.getElem_of_mem hx
    have hl := along_len h
    have hr := along_row h (k := k) (by omega)
    rw [List.getD_eq_getElem?_getD, List.getElem?_eq_getElem hk] at hr
    exact ⟨k, by omega, hr⟩
  refine ⟨fun x hx => ?_, fun i x hx => ?_⟩
  · obtain ⟨k, _, rfl⟩ := key x hx
    exact toksOf_len _ _
  · obtain ⟨k, hk, rfl⟩ := key x hx
    rw [List.getD_eq_getElem?_getD]
    cases e : (toksOf arcs (endOf (zs.take k) (List.replicate N 0)))[i]? with
    | none => simp
    | some y =>
      have hm := List.mem_of_getElem? e
      obtain ⟨a, ha, rfl⟩ := List.mem_map.1 hm
      exact (atK_last h hk ha).1
/-- What the document's most answers. -/
def RefM (h : Hp) (N : Int) (arcs : List Arc) (zs : List Int) (r : Value) (h' : Hp) : Prop :=
  h.le h' ∧ ((along N arcs zs).1 ≠ 0 → r = .tuple #[.slice none 0 0, iv (along N arcs zs).1]) ∧ ((along N arcs zs).1 = 0 → ∃ B c, r = .tuple #[.slice B arcs.length c, iv 0] ∧ Tab h' 1 B arcs.length ((maxes (along N arcs zs).2).map fun z => [iv z]))
theorem most20 (N : Int) (n cap : Nat) (arcs : List Arc) (A D : Option Addr) (r cap2 : Nat) (zs : List Int) (h : Hp) (ht : Tab h 5 A n (arcs.map Arc.cells)) (hn : n ≤ 9223372036854775806) (hz : Tab h 1 D r (zs.map fun z => [iv z])) :
    Fn Try.prog 20 #[netV N A n cap, .slice D r cap2] h fun v h' => RefM h N arcs zs v h' := by
  obtain rfl : arcs.length = n := by simpa using ht.len
  refine Fn.intro (args := [netV N A arcs.length cap, .slice D r cap2]) mix14 Try.func20 rfl (by decide) Try.ntmps20 rfl (low20 rfl) rfl ?_
  conv => whnf
  refine .done (.mk _ (along13 N arcs.length cap arcs A D r cap2 zs h ht hn hz) ?_)
  rintro v h1 ⟨hle, hb, hg⟩
  by_cases he : (along N arcs zs).1 = 0
  · obtain ⟨B, c, J, rfl, hl⟩ := hg he
    have hs := (along_parts he).1
    have hNb := chk_zero hs
    obtain ⟨N, rfl⟩ : ∃ q : Nat, N = q := ⟨N.toNat, by omega⟩
    obtain ⟨r1, r2⟩ := along_rows he
    have hsz := along_size N arcs zs
    have hne := along_ne he
    have hfin : ∀ B c h', h.le h' → Tab h' 1 B arcs.length ((maxes (along N arcs zs).2).map fun z => [iv z]) → RefM h N arcs zs (.tuple #[.slice B arcs.length c, iv 0]) h' := fun B c h' l t => ⟨l, fun q => absurd he q, fun _ => ⟨B, c, rfl, t⟩⟩
    generalize hrows : (along N arcs zs).2 = rows at *
    have hmx := maxes_len hne r1
    conv => whnf
    refine .mkS [0] (Nat × Option Addr × Nat) [2, 6, 8, 9] (fun (i, A', c') => [.p 0 0, .v (.slice B rows.length c), .v (.slice A' i c'), .v (iv i)]) (fun _ => [.own [.v (iv N), .v (.slice A arcs.length cap)] 24])
      (fun (i, A', c') h' => h1.le h' ∧ i ≤ arcs.length ∧ RowAt h' 3 1 A' i c' (((maxes rows).take i).map iv) ∧ ∀ g, A' = some g → h1 g.block = none) (fun (i, _, _) => arcs.length - i) (0, none, 0) (fun (_, _, _) => rfl) ⟨Hp.le_refl _, Nat.zero_le _, ⟨rfl, .inl ⟨rfl, rfl, rfl⟩⟩, by simp⟩ rfl rfl rfl ?_
    rintro ⟨i, A', c'⟩ e h2 ⟨l2, hi, hro, hfr⟩
    refine .done ?_
    conv => whnf
    refine br_dec (fun u1 => ?_) (fun u1 => ?_)
    · have hi' : i < arcs.length := by omega
      conv => whnf
      refine .mk Nat [2, 6, 8, 9, 10, 11] (fun k => [.p 0 0, .v (.slice B rows.length c), .v (.slice A' i c'), .v (iv i), .v (iv (topK rows i k)), .v (iv k)]) (fun _ => [.own [.v (iv N), .v (.slice A arcs.length cap)] 24]) (fun k h' => h' = h2 ∧ k ≤ rows.length) (fun k => rows.length - k) 0 (fun _ => rfl) ⟨rfl, Nat.zero_le _⟩ rfl rfl ?_
      rintro k e2 h2 ⟨rfl, hk⟩
      conv => whnf
      refine br_dec (fun u2 => ?_) (fun u2 => ?_)
      · have hk' : k < rows.length := by omega
        obtain ⟨g, hg⟩ := hl.outer.ad (by omega)
        have hl2 := hl.mono l2
        have hrk : rows.getD k [] = rows[k] := by rw [List.getD_eq_getElem?_getD, List.getElem?_eq_getElem hk']; rfl
        have hkl : (rows.getD k []).length = arcs.length := by rw [hrk]; exact r1 _ (List.getElem_mem hk')
        have hin := hl2.inner k hk'
        rw [hkl] at hin
        obtain ⟨g2, hg2⟩ := hin.ad (by omega)
        conv => whnf
        refine .mk g hg (by omega) (by omega) ?_
        conv => whnf
        refine .hp (.slice (J k).1 (rows.getD k []).length (J k).2) (by rw [Int.toNat_natCast]; exact hl2.outer.one hg (map_range hk') rfl) ?_
        rw [hkl]
        conv => whnf
        refine .mk g2 hg2 (by omega) (by omega) ?_
        conv => whnf
        refine .hp (iv ((rows.getD k []).getD i 0)) (by
          rw [Int.toNat_natCast]
          refine hin.one hg2 (r := [iv ((rows.getD k []).getD i 0)]) ?_ rfl
          rw [List.getElem?_map, List.getElem?_eq_getElem (by omega), List.getD_eq_getElem?_getD (l := rows.getD k []), List.getElem?_eq_getElem (by omega)]; rfl) ?_
        conv => whnf
        refine .ok (by omega) (by omega) ?_
        conv => whnf
        refine ⟨k + 1, ?_, rfl, ⟨rfl, hk'⟩, by omega⟩
        rw [topK_step hk']; rfl
      · obtain rfl : k = rows.length := by omega
        have htop := topK_all hne hi' r1 (r2 i)
        rw [htop]
        conv => whnf
        refine .abs 3 1 A' i c' _ hro (.done (.old 2 _ [iv ((maxes rows).getD i 0)] rfl rfl (nums_one [(maxes rows).getD i 0]) (by simp [maxLen]; omega) (by omega) fun A2 c2 hA2 => ?_))
        conv => whnf
        refine .ok (by omega) (by omega) ?_
        conv => whnf
        refine .pub 2 3 1 A2 (i + 1) c2 _ rfl fun h3 hle3 hr3 hf3 => .done ⟨(i + 1, A2, c2), rfl, rfl, ⟨Hp.le_trans (delA_none l2 hfr) hle3, hi', ?_, fun g hg => le_none (delA_none l2 hfr) (hf3 g hg)⟩, by show arcs.length - (i + 1) < arcs.length - i; omega⟩
        have hr3 : RowAt h3 3 1 A2 (i + 1) c2 (((maxes rows).take i).map iv ++ [iv ((maxes rows).getD i 0)]) := hr3
        have e3 : (maxes rows).getD i 0 = (maxes rows)[i]'(by omega) := by rw [List.getD_eq_getElem?_getD, List.getElem?_eq_getElem (by omega)]; rfl
        rw [take_succ' (by omega), List.map_append, ← e3]
        exact hr3
    · obtain rfl : i = arcs.length := by omega
      rw [List.take_of_length_le (by omega)] at hro
      conv => whnf
      exact .done (hfin A' c' h2 (hle.trans' l2) hro.one)
  · obtain rfl := hb he
    conv => whnf
    refine br_dec (fun _ => ?_) (fun q => absurd he q)
    conv => whnf
    exact .done ⟨hle, fun _ => rfl, fun q => absurd q he⟩
end Go.Sx
