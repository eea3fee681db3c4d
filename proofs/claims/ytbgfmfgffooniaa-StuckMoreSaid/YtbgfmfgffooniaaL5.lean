/- StuckMore: the law's own function answers true. Conditions: none. -/
import Derived.Test.YtbgfmfgffooniaaS7
namespace Go.Sx
open Go.Proofs
theorem law5 (N k : Int) (A B : Option Addr) (n m cap cap' : Nat) (arcs : List Arc) (l : List Blk) (h : Hp) (ht : Tab h 5 A n (arcs.map Arc.cells)) (hu : Tab h 3 B m (l.map Blk.cells)) (hn : n * 40 ≤ 140737488355328) (hm : m * 24 ≤ 140737488355328) :
    Fn Try.prog 5 #[netV N A n cap, .slice B m cap', iv k] h fun r h' => r = .bool true ∧ h.le h' := by
  have hla : arcs.length = n := by simpa using ht.len
  refine Fn.intro (args := [netV N A n cap, .slice B m cap', iv k]) mix14 Try.func5 rfl (by decide) Try.ntmps5 rfl (low5 rfl) rfl ?_
  conv => whnf
  refine .done (.mk _ (confirm11 N A B n m cap cap' arcs l h ht hu (by omega) (by omega)) ?_)
  rintro _ h1 ⟨rfl, hle1⟩
  have hu1 := hu.mono hle1
  have ht1 := ht.mono hle1
  conv => whnf
  refine br_dec (fun h2 => ?_) (fun h2 => ?_)
  · conv => whnf
    refine .done (.mk _ (awake15 _) ?_)
    rintro _ h5 ⟨rfl, hle5⟩
    conv => whnf
    exact .done ⟨rfl, hle1.trans' hle5⟩
  conv => whnf
  refine br_dec (fun h3 => ?_) (fun h3 => ?_)
  · conv => whnf
    refine .done (.mk _ (awake15 _) ?_)
    rintro _ h5 ⟨rfl, hle5⟩
    conv => whnf
    exact .done ⟨rfl, hle1.trans' hle5⟩
  obtain ⟨i, rfl⟩ : ∃ i : Nat, k = i := ⟨k.toNat, by omega⟩
  have hi : i < arcs.length := by omega
  obtain ⟨g, hg⟩ := ht.ad (by omega)
  generalize ha : arcs[i] = a
  have hcell : h1.cell? ((g.add (i * 5)).add 4) = some (iv a.start) := by
    rw [add_add, ← ha]; exact ht1.cell g hg i _ (map_get hi) 4 _ rfl
  conv => whnf
  refine .mk g hg (by omega) (by omega) ?_
  conv => whnf
  refine .hp (iv a.start) (by rw [Int.toNat_natCast]; exact hcell) ?_
  conv => whnf
  refine br_dec (fun h4 => ?_) (fun h4 => ?_)
  · conv => whnf
    refine .done (.mk _ (awake15 _) ?_)
    rintro _ h5 ⟨rfl, hle5⟩
    conv => whnf
    exact .done ⟨rfl, hle1.trans' hle5⟩
  conv => whnf
  refine .mk g hg (by omega) (by omega) ?_
  conv => whnf
  refine .hp (iv a.start) (by rw [Int.toNat_natCast]; exact hcell) ?_
  conv => whnf
  refine br_dec (fun h5 => ?_) (fun h5 => ?_)
  · conv => whnf
    refine .done (.mk _ (awake15 _) ?_)
    rintro _ h5 ⟨rfl, hle5⟩
    conv => whnf
    exact .done ⟨rfl, hle1.trans' hle5⟩
  have hai : arcs[i]? = some a := by rw [List.getElem?_eq_getElem hi, ha]
  conv => whnf
  refine .done (.mk _ (net10r N A n cap arcs h1 ht1 hn) ?_)
  rintro _ h2' ⟨hle2, A', ca', rfl, hrow, hfresh⟩
  have ht2 : Tab h2' 5 A' n (arcs.map Arc.cells) := hrow.tab (arcs_wid _) (by decide)
  obtain ⟨gb, cs, cs', hA', hgb, hov, hrow'⟩ := hrow.write (off := i * 5 + 4) (by omega) (iv (a.start + 1))
  have hnew : (List.map Arc.cells arcs).flatten.set (i * 5 + 4) (iv (a.start + 1)) = ((arcs.set i a.more).map Arc.cells).flatten := by
    rw [flat_set _ (arcs_wid _) i 4 a.cells _ (by simp [hai]) (by decide), List.map_set]
    rfl
  rw [hnew] at hrow'
  have hgn : h1 gb = none := hfresh _ hA'
  have hle3 := Hp.le_put_of (o := .cells cs'.toArray 39 (0, 0)) hle2 hgn
  conv => whnf
  refine .mk _ hA' (by omega) (by omega) ?_
  conv => whnf
  refine .hp (iv a.start) (by rw [Int.toNat_natCast, add_add, ← ha]; exact ht2.cell _ hA' i _ (map_get hi) 4 _ rfl) ?_
  conv => whnf
  refine .ok (by omega) (by omega) ?_
  conv => whnf
  refine .mk _ hA' (by omega) (by omega) ?_
  conv => whnf
  refine .hp gb (i * 5 + 4) 39 cs cs' (by rw [add_lit, add_lit, Int.toNat_natCast, Nat.zero_add]) hgb hov ?_
  conv => whnf
  refine .done (.mk _ (confirm11 N A' B n m ca' cap' (arcs.set i a.more) l _ (hrow'.tab (arcs_wid _) (by decide)) (hu1.mono hle3) (by omega) (by omega)) ?_)
  rintro _ h4 ⟨rfl, hle4⟩
  have hle := (hle1.trans' hle3).trans' hle4
  obtain ⟨c1, c2⟩ := conf_set (N := N) (l := l) hai (by omega) (by omega)
  conv => whnf
  refine br_dec (fun h6 => ?_) (fun h6 => ?_)
  · conv => whnf
    refine br_dec (fun h7 => ?_) (fun h7 => ?_)
    · conv => whnf
      refine .done (.mk _ (awake15 _) ?_)
      rintro _ h5 ⟨rfl, hle5⟩
      conv => whnf
      exact .done ⟨rfl, hle.trans' hle5⟩
    conv => whnf
    refine br_dec (fun h8 => ?_) (fun h8 => ?_)
    · conv => whnf
      refine .done (.mk _ (awake15 _) ?_)
      rintro _ h5 ⟨rfl, hle5⟩
      conv => whnf
      exact .done ⟨rfl, hle.trans' hle5⟩
    · rcases c1 h6 with e | e
      · exact absurd e h7
      · exact absurd e h8
  · conv => whnf
    refine br_dec (fun h7 => ?_) (fun h7 => absurd (c2 h6) h7)
    conv => whnf
    refine .done (.mk _ (awake15 _) ?_)
    rintro _ h5 ⟨rfl, hle5⟩
    conv => whnf
    exact .done ⟨rfl, hle.trans' hle5⟩
end Go.Sx
