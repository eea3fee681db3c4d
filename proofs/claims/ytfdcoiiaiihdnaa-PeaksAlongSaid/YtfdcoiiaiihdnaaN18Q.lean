/- Layer 18: the document's state starts, counts and fires. Conditions: none. -/
import Derived.Test.YtfdcoiiaiihdnaaN18P
namespace Go.Sx
open Go.Proofs
def fillL (l : List Int) (k : Nat) : List Int := l.take k ++ List.replicate (l.length - k) 0
theorem fillL_zero (l : List Int) : (fillL l 0).map iv = List.replicate l.length (iv 0) := by simp [fillL]
theorem fillL_all (l : List Int) : fillL l l.length = l := by simp [fillL]
theorem fillL_len (l : List Int) (k : Nat) (hk : k ≤ l.length) : (fillL l k).length = l.length := by simp [fillL]; omega
theorem fillL_step {l : List Int} {k : Nat} (hk : k < l.length) : (fillL l k).set k l[k] = fillL l (k + 1) := by
  unfold fillL
  have h1 : (l.take k).length = k := by simp; omega
  rw [List.set_append_right _ _ (by omega), h1, Nat.sub_self, show l.length - k = (l.length - (k + 1)) + 1 by omega, List.replicate_succ, List.set_cons_zero, take_succ' hk, List.append_assoc]
  rfl
theorem counts33 {N n cap cF T : Nat} {arcs : List Arc} {f : List Int} {A F : Option Addr} {h : Hp} (hs : chk N arcs = 0) (ht : Tab h 5 A n (arcs.map Arc.cells)) (hF : Tab h 1 F N (f.map fun z => [iv z])) (hg : Good N arcs f T) (hT : T ≤ 70368744177664) :
    Fn Try.prog 33 #[refV N A n cap F cF] h fun r h' => ∃ g, r = .slice (some g) n n ∧ h.le h' ∧ RowAt h' 3 1 (some g) n n ((toksOf arcs f).map iv) ∧ h g.block = none := by
  obtain rfl : arcs.length = n := by simpa using ht.len
  have hsz := (chk_zero hs).2.2.1
  have htl := toksOf_len arcs f
  refine Fn.intro (args := [refV N A arcs.length cap F cF]) mix14 Try.func33 rfl (by decide) Try.ntmps33 rfl (low33 rfl) rfl ?_
  conv => whnf
  refine EvMake.one arcs.length (iv 0) rfl rfl rfl rfl (by omega) (by omega) fun g => ?_
  rw [show List.replicate arcs.length (iv 0) = (fillL (toksOf arcs f) 0).map iv by rw [fillL_zero, htl]]
  conv => whnf
  refine .mk Nat [1, 3, 4] (fun k => [.p 0 0, .v (.slice (some g) arcs.length arcs.length), .v (iv k)]) (fun k => [.own [.v (iv N), .v (.slice A arcs.length cap), .v (.slice F N cF)] 58, .row 3 1 (some g) arcs.length arcs.length ((fillL (toksOf arcs f) k).map iv)])
    (fun k h' => h' = h ∧ k ≤ arcs.length) (fun k => arcs.length - k) 0 (fun _ => rfl) ⟨rfl, Nat.zero_le _⟩ rfl rfl ?_
  rintro k e h' ⟨rfl, hk⟩
  conv => whnf
  refine br_dec (fun h1 => ?_) (fun h1 => ?_)
  · have hi : k < arcs.length := by omega
    have hst := fillL_step (l := toksOf arcs f) (k := k) (by omega)
    rw [show (toksOf arcs f)[k]'(by omega) = tokOf f arcs[k] by simp [toksOf]] at hst
    conv => whnf
    refine .done (.mk _ (has49 hs ht hF hg hT hi) ?_)
    rintro _ _ ⟨rfl, rfl⟩
    conv => whnf
    refine .mk g rfl (by omega) (by omega) ?_
    conv => whnf
    refine .row 1 3 1 g arcs.length arcs.length _ _ k rfl (by rw [Int.toNat_natCast, Nat.mul_one]) (over_one _ _ _ (by simp only [List.length_map, fillL_len (toksOf arcs f) k (by omega)]; omega)) ?_
    conv => whnf
    refine .ok (by omega) (by omega) ?_
    conv => whnf
    refine ⟨k + 1, rfl, ?_, ⟨rfl, hi⟩, by omega⟩
    rw [← hst, List.map_set]
    rfl
  · obtain rfl : k = arcs.length := by omega
    conv => whnf
    refine .pub 1 3 1 (some g) arcs.length arcs.length _ rfl fun h2 hle hr hf => .done ⟨g, rfl, hle, ?_, hf g rfl⟩
    have hr : RowAt h2 3 1 (some g) arcs.length arcs.length ((fillL (toksOf arcs f) arcs.length).map iv) := hr
    rwa [← htl, fillL_all, htl] at hr
theorem start32 {N n cap : Nat} {arcs : List Arc} {A : Option Addr} {h : Hp} (hs : chk N arcs = 0) :
    Fn Try.prog 32 #[netV N A n cap] h fun r h' => ∃ g, r = refV N A n cap (some g) N ∧ h.le h' ∧ RowAt h' 3 1 (some g) N N ((List.replicate N (0 : Int)).map iv) ∧ h g.block = none := by
  have hN := (chk_zero hs).2.1
  refine Fn.intro (args := [netV N A n cap]) mix14 Try.func32 rfl (by decide) Try.ntmps32 rfl (low32 rfl) rfl ?_
  conv => whnf
  refine EvMake.one N (iv 0) rfl rfl rfl rfl (by omega) (by omega) fun g => ?_
  conv => whnf
  refine .pub 2 3 1 (some g) N N _ rfl fun h2 hle hr hf => .done ⟨g, rfl, hle, ?_, hf g rfl⟩
  rw [List.map_replicate]; exact hr
theorem fire35 {N n cap T : Nat} {arcs : List Arc} {f : List Int} {A D : Option Addr} {gF : Addr} {h : Hp} (hs : chk N arcs = 0) (ht : Tab (h.del gF.block) 5 A n (arcs.map Arc.cells)) (hF : RowAt h 3 1 (some gF) N N (f.map iv)) (hg : Good N arcs f T) (hT : T ≤ 70368744177664) (v : Int)
    (hz : Tab (h.del gF.block) 1 D 1 ([v].map fun z => [iv z])) (c : Nat) (hm : may N arcs f v = true) :
    Fn Try.prog 35 #[refV N A n cap (some gF) N, .slice D 1 c] h fun _ h' => (h.del gF.block).le h' ∧ RowAt h' 3 1 (some gF) N N ((bump f v.toNat).map iv) := by
  obtain ⟨u, rfl, huN⟩ := may_out hm
  have hdl := Hp.del_le h gF.block
  obtain ⟨g1, hg1⟩ := hz.ad (by decide)
  have hul : u < f.length := by rw [hg.len]; exact huN
  have hub := hg.at u
  have hgu : f.getD u 0 = f[u] := by rw [List.getD_eq_getElem?_getD, List.getElem?_eq_getElem hul]; rfl
  rw [hgu] at hub
  refine Fn.intro (args := [refV N A n cap (some gF) N, .slice D 1 c]) mix14 Try.func35 rfl (by decide) Try.ntmps35 rfl (low35 rfl) rfl ?_
  conv => whnf
  refine .mk Nat [1, 2, 5] (fun k => [.v (.slice D 1 c), .p 0 0, .v (iv k)]) (fun _ => [.own [.v (iv N), .v (.slice A n cap), .v (.slice (some gF) N N)] 58])
    (fun k h' => (k = 0 ∧ h' = h) ∨ (k = 1 ∧ (h.del gF.block).le h' ∧ RowAt h' 3 1 (some gF) N N ((bump f u).map iv))) (fun k => 1 - k) 0 (fun _ => rfl) (.inl ⟨rfl, rfl⟩) rfl rfl ?_
  rintro k e h' hinv
  rcases hinv with ⟨rfl, rfl⟩ | ⟨rfl, hl, hr⟩
  · conv => whnf
    refine .mk g1 hg1 (by omega) (by omega) ?_
    conv => whnf
    refine .hp (iv u) ((hz.mono hdl).one hg1 (i := 0) (r := [iv u]) rfl rfl) ?_
    conv => whnf
    refine .mk _ (may34 hs (ht.mono hdl) hF.one hg hT (u : Int)) (fun _ _ q => by rw [q.2]; exact Hp.le_refl _) ?_
    rintro _ _ ⟨rfl, rfl⟩
    rw [hm]
    conv => whnf
    refine .mk g1 hg1 (by omega) (by omega) ?_
    conv => whnf
    refine .hp (iv u) ((hz.mono hdl).one hg1 (i := 0) (r := [iv u]) rfl rfl) ?_
    conv => whnf
    refine .mk g1 hg1 (by omega) (by omega) ?_
    conv => whnf
    refine .hp (iv u) ((hz.mono hdl).one hg1 (i := 0) (r := [iv u]) rfl rfl) ?_
    conv => whnf
    refine .mk gF rfl (by omega) (by omega) ?_
    conv => whnf
    refine .hp (iv f[u]) (by rw [Int.toNat_natCast]; exact hF.one.one rfl (r := [iv f[u]]) (by simp [hul]) rfl) ?_
    conv => whnf
    refine .ok (by omega) (by omega) ?_
    conv => whnf
    refine .mk gF rfl (by omega) (by omega) ?_
    conv => whnf
    obtain ⟨g3, cs, cs', e1, e2, e3, e4⟩ := hF.write (off := u) (by omega) (iv (f[u] + 1))
    injection e1 with e1
    subst e1
    refine .hp g3 u 3 cs cs' (by rw [Int.toNat_natCast, add_lit, Nat.mul_one, Nat.zero_add]) e2 e3 ?_
    conv => whnf
    refine .ok (by omega) (by omega) ?_
    conv => whnf
    refine ⟨1, rfl, rfl, .inr ⟨rfl, fun j o q => ?_, ?_⟩, by decide⟩
    · rw [Hp.put_ne _ _ (fun w => by subst w; rw [show (⟨j, 0, none⟩ : Addr).block = j from rfl, Hp.del_same] at q; cases q)]
      exact Hp.del_le _ _ j o q
    · rw [bump, hgu, List.map_set]; exact e4
  · conv => whnf
    exact .done ⟨hl, hr⟩
end Go.Sx
