/- Layer 18: the document's home; lists lent and kept. Conditions: none. -/
import Derived.Test.YtfdcoiiaiihdnaaN18R
import Derived.Test.YtfdcoiiaiihdnaaC9
namespace Go.Sx
open Go.Proofs
theorem home23 (N : Int) (n cap : Nat) (arcs : List Arc) (A D : Option Addr) (r cap2 : Nat) (zs : List Int) (h : Hp) (ht : Tab h 5 A n (arcs.map Arc.cells)) (hn : n ≤ 9223372036854775806) (hz : Tab h 1 D r (zs.map fun z => [iv z])) :
    Fn Try.prog 23 #[netV N A n cap, .slice D r cap2] h fun v h' => v = .tuple #[.bool (homeOf N arcs zs), iv (along N arcs zs).1] ∧ h.le h' := by
  refine Fn.intro (args := [netV N A n cap, .slice D r cap2]) mix14 Try.func23 rfl (by decide) Try.ntmps23 rfl (low23 rfl) rfl ?_
  conv => whnf
  refine .done (.mk _ (along13 N n cap arcs A D r cap2 zs h ht hn hz) ?_)
  rintro v h' ⟨hle, hb, hg⟩
  by_cases he : (along N arcs zs).1 = 0
  · obtain ⟨B, c, J, rfl, hl⟩ := hg he
    have hsz := along_size N arcs zs
    have hne := along_ne he
    generalize hrows : (along N arcs zs).2 = rows at *
    have h00 : 0 < rows.length := Nat.pos_of_ne_zero fun q => hne (List.eq_nil_of_length_eq_zero q)
    have hl1 : rows.length - 1 < rows.length := by omega
    obtain ⟨g, hg⟩ := hl.outer.ad (by omega)
    conv => whnf
    refine .mk g hg (by omega) (by omega) ?_
    conv => whnf
    refine .hp (.slice (J 0).1 (rows.getD 0 []).length (J 0).2) (hl.outer.one hg (i := 0) (map_range h00) rfl) ?_
    conv => whnf
    refine .ok (by omega) (by omega) ?_
    conv => whnf
    refine .mk g hg (by omega) (by omega) ?_
    conv => whnf
    refine .hp (.slice (J (rows.length - 1)).1 (rows.getD (rows.length - 1) []).length (J (rows.length - 1)).2) (by rw [show ((rows.length : Int) - 1).toNat = rows.length - 1 by omega]; exact hl.outer.one hg (map_range hl1) rfl) ?_
    conv => whnf
    have hlen0 : (rows.getD 0 []).length ≤ 9223372036854775806 := by
      obtain ⟨h1, _, _, h4⟩ := along_parts he
      rw [hrows] at h4
      rw [h4]
      have := (chk_zero h1).2.2.1
      simp [toksOf_len]; omega
    refine .mk _ (same21 _ _ _ _ _ _ _ _ _ (hl.inner 0 h00) (hl.inner _ hl1) hlen0) (fun _ _ q => by rw [q.2]; exact Hp.le_refl _) ?_
    rintro _ _ ⟨rfl, rfl⟩
    rw [← home_rows he hrows]
    conv => whnf
    refine .done ⟨?_, hle⟩
    rw [he]; rfl
  · obtain rfl := hb he
    conv => whnf
    refine br_dec (fun _ => ?_) (fun q => absurd he q)
    conv => whnf
    refine .done ⟨?_, hle⟩
    rw [homeOf, decide_eq_false he]; rfl
def marks4 : List Int := [-7770777, -7770777, -7770777, -7770777]
/-- a list lent: its numbers, and marks behind them -/
structure LentL (h : Hp) (A : Option Addr) (r : Nat) (zs : List Int) : Prop where
  len : zs.length = r
  row : Tab h 1 A (r + 4) ((zs ++ marks4).map fun z => [iv z])
theorem LentL.tab {h : Hp} {A : Option Addr} {r : Nat} {zs : List Int} (x : LentL h A r zs) : Tab h 1 A r (zs.map fun z => [iv z]) := by
  have := x.row.take (k := r) (by omega)
  rwa [List.map_append, List.take_left' (by simpa using x.len)] at this
theorem LentL.mono {h h' : Hp} {A : Option Addr} {r : Nat} {zs : List Int} (x : LentL h A r zs) (l : h.le h') : LentL h' A r zs := ⟨x.len, x.row.mono l⟩
theorem map_add0' (A : Option Addr) : A.map (fun a => a.add (0 * 1)) = A := by cases A <;> simp [add_zero]
theorem lent11 (D : Option Addr) (r cap2 : Nat) (zs : List Int) (h : Hp) (hz : Tab h 1 D r (zs.map fun z => [iv z])) (hr : r * 8 ≤ 140737488355328) :
    Fn Try.prog 11 #[.slice D r cap2] h fun v h' => h.le h' ∧ ∃ A', v = .slice A' r (r + 4) ∧ LentL h' A' r zs := by
  have hzl : zs.length = r := by simpa using hz.len
  refine Fn.intro (args := [.slice D r cap2]) mix14 Try.func11 rfl (by decide) Try.ntmps11 rfl (low11 rfl) rfl ?_
  conv => whnf
  refine .ok (by omega) (by omega) ?_
  conv => whnf
  refine EvMake.room (r + 4) rfl (by omega) (by omega) (by omega) fun g => ?_
  conv => whnf
  refine .done (.room 0 g _ _ rfl rfl (hz.src _) (by rw [flat_nums]; exact nums_one zs) (by omega) ?_)
  rw [flat_nums, Nat.zero_add]
  conv => whnf
  refine .mk Nat [0, 3, 4] (fun k => [.v (.slice D r cap2), .v (.slice (some g) (r + k) (r + 4)), .v (iv k)]) (fun k => [.row 3 1 (some g) (r + k) (r + 4) ((zs ++ marks4.take k).map iv)]) (fun k h' => h' = h ∧ k ≤ 4) (fun k => 4 - k) 0 (fun _ => rfl) ⟨rfl, by decide⟩ rfl (by show _ = [LE.row 3 1 (some g) r (r + 4) ((zs ++ []).map iv)]; rw [List.append_nil]; rfl) ?_
  rintro k e h' ⟨rfl, hk⟩
  conv => whnf
  refine br_dec (fun h1 => ?_) (fun h1 => ?_)
  · have hk' : k < 4 := by omega
    conv => whnf
    refine .done (.room 0 g _ [iv (-7770777)] rfl rfl rfl (nums_one [-7770777]) (by omega) ?_)
    conv => whnf
    refine .ok (by omega) (by omega) ?_
    conv => whnf
    refine ⟨k + 1, rfl, ?_, ⟨rfl, hk'⟩, by omega⟩
    have : (zs ++ marks4.take k).map iv ++ [iv (-7770777)] = (zs ++ marks4.take (k + 1)).map iv := by
      match k, hk' with
      | 0, _ => simp [marks4]
      | 1, _ => simp [marks4]
      | 2, _ => simp [marks4]
      | 3, _ => simp [marks4]
    rw [← this]
    rfl
  · obtain rfl : k = 4 := by omega
    conv => whnf
    refine .mk 0 r rfl rfl (Nat.zero_le _) (by omega) fun B hB1 _ => ?_
    obtain rfl : B = some g := by rw [hB1 (by omega), map_add0']
    conv => whnf
    refine .pub 0 3 1 (some g) (r + 4) (r + 4) _ rfl fun h2 hle hro _ => .done ⟨hle, some g, rfl, hzl, ?_⟩
    exact hro.one
theorem kept18 (A D : Option Addr) (r c2 : Nat) (zs : List Int) (h : Hp) (ht : LentL h A r zs) (hz : Tab h 1 D r (zs.map fun z => [iv z])) (hr : r * 8 ≤ 140737488355328) :
    Fn Try.prog 18 #[.slice A r (r + 4), .slice D r c2] h fun v h' => v = .bool true ∧ h' = h := by
  obtain ⟨g, rfl⟩ := ht.row.ad (by omega)
  refine Fn.intro (args := [.slice (some g) r (r + 4), .slice D r c2]) mix14 Try.func18 rfl (by decide) Try.ntmps18 rfl (low18 rfl) rfl ?_
  conv => whnf
  refine .done (.mk _ (same21 _ _ _ _ _ _ _ _ _ ht.tab hz (by omega)) ?_)
  rintro _ h' ⟨rfl, rfl⟩
  rw [decide_eq_true rfl]
  conv => whnf
  refine .ok (by omega) (by omega) ?_
  conv => whnf
  refine .mk 0 (r + 4) rfl rfl (Nat.zero_le _) (Nat.le_refl _) fun B hB1 _ => ?_
  obtain rfl : B = some g := by rw [hB1 (by omega), map_add0']
  conv => whnf
  refine .mk Nat [5, 6] (fun k => [.v (.slice (some g) (r + 4) (r + 4)), .v (iv ((r + k : Nat) : Int))]) (fun _ => []) (fun k h2 => h2 = h' ∧ k ≤ 4) (fun k => 4 - k) 0 (fun _ => rfl) ⟨rfl, by decide⟩ rfl rfl ?_
  rintro k e h2 ⟨rfl, hk⟩
  conv => whnf
  refine br_dec (fun h1 => ?_) (fun h1 => ?_)
  · have hk' : k < 4 := by omega
    have hget : ((zs ++ marks4).map fun z => [iv z])[r + k]? = some [iv (-7770777)] := by
      rw [List.getElem?_map, List.getElem?_append_right (by rw [ht.len]; omega), ht.len, Nat.add_sub_cancel_left]
      match k, hk' with
      | 0, _ => rfl
      | 1, _ => rfl
      | 2, _ => rfl
      | 3, _ => rfl
    conv => whnf
    refine .mk g rfl (by omega) (by omega) ?_
    conv => whnf
    refine .hp (iv (-7770777)) (by rw [Int.toNat_natCast]; exact ht.row.one rfl hget rfl) ?_
    conv => whnf
    refine .ok (by omega) (by omega) ?_
    conv => whnf
    exact ⟨k + 1, rfl, rfl, ⟨rfl, hk'⟩, by omega⟩
  · conv => whnf
    exact .done ⟨rfl, rfl⟩
end Go.Sx
