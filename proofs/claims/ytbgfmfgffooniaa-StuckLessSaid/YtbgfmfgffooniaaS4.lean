/- Layer 14: the reference's answer. Conditions: none. -/
import Derived.Test.YtbgfmfgffooniaaS3
namespace Go.Sx
open Go.Proofs
theorem ok1_no {N : Int} {b : Blk} (h : ¬ (0 ≤ b.node ∧ b.node < N ∧ 0 ≤ b.fired ∧ b.fired ≤ 4096)) : ok1 N b = false := by
  cases e : ok1 N b
  · rfl
  · exact absurd (ok1_iff.1 e) h
theorem arcOf_lt {arcs : List Arc} {b : Blk} (h0 : 0 ≤ b.arc) (h1 : b.arc < arcs.length) : arcOf arcs b = some (arcs[b.arc.toNat]'(by omega)) := by
  rw [arcOf, if_pos h0, List.getElem?_eq_getElem (by omega)]
theorem arcOf_out {arcs : List Arc} {b : Blk} (h : b.arc < 0 ∨ (arcs.length : Int) ≤ b.arc) : arcOf arcs b = none := by
  unfold arcOf
  split
  · exact List.getElem?_eq_none (by omega)
  · rfl
theorem whole21 (N : Int) (A B : Option Addr) (n m cap cap' : Nat) (arcs : List Arc) (l : List Blk) (h : Hp) (ht : Tab h 5 A n (arcs.map Arc.cells)) (hu : Tab h 3 B m (l.map Blk.cells)) (hm : m ≤ 9223372036854775806) (i : Nat) (hi : i < l.length) :
    Fn Try.prog 21 #[netV N A n cap, .slice B m cap', iv i] h fun r h' => r = .bool (wholeB N arcs l i l[i]) ∧ h' = h := by
  have hla : arcs.length = n := by simpa using ht.len
  have hl : l.length = m := by simpa using hu.len
  have hf := find22 (h := h) (A := B) (n := m) (cap := cap') (l := l) (ht := hu) (hn := hm)
  refine Fn.intro (args := [netV N A n cap, .slice B m cap', iv i]) mix14 Try.func21 rfl (by decide) Try.ntmps21 rfl (low21 rfl) rfl ?_
  obtain ⟨g', hg'⟩ := hu.ad (by omega)
  have no1 : ok1 N l[i] = false → wholeB N arcs l i l[i] = false := fun e => by simp [wholeB, e]
  conv => whnf
  refine .mk g' hg' (by omega) (by omega) ?_
  conv => whnf
  refine .hp l[i].cells rfl (by rw [Int.toNat_natCast]; exact hu.row hg' (map_get hi)) ?_
  conv => whnf
  refine br_dec (fun h1 => ?_) (fun h1 => ?_)
  · conv => whnf
    refine .done ⟨?_, rfl⟩
    rw [no1 (ok1_no (by omega))]; rfl
  conv => whnf
  refine br_dec (fun h2 => ?_) (fun h2 => ?_)
  · conv => whnf
    refine .done ⟨?_, rfl⟩
    rw [no1 (ok1_no (by omega))]; rfl
  conv => whnf
  refine .done (.mk _ (hf l[i].node) ?_)
  rintro _ _ ⟨rfl, rfl⟩
  conv => whnf
  refine br_dec (fun h3 => ?_) (fun h3 => ?_)
  · conv => whnf
    refine .done ⟨?_, rfl⟩
    have : wholeB N arcs l i l[i] = false := by simp [wholeB, h3]
    rw [this]; rfl
  have h3 := Decidable.not_not.1 h3
  conv => whnf
  refine br_dec (fun h4 => ?_) (fun h4 => ?_)
  · conv => whnf
    refine .done ⟨?_, rfl⟩
    rw [no1 (ok1_no (by omega))]; rfl
  conv => whnf
  refine br_dec (fun h5 => ?_) (fun h5 => ?_)
  · conv => whnf
    refine .done ⟨?_, rfl⟩
    rw [no1 (ok1_no (by omega))]; rfl
  have hok : ok1 N l[i] = true := ok1_iff.2 (by omega)
  have hw : wholeB N arcs l i l[i] = ok2 arcs l l[i] := by simp [wholeB, hok, h3]
  rw [hw]
  conv => whnf
  refine br_dec (fun h6 => ?_) (fun h6 => ?_)
  · conv => whnf
    refine .done ⟨?_, rfl⟩
    rw [ok2, arcOf_out (.inl h6)]; rfl
  conv => whnf
  refine br_dec (fun h7 => ?_) (fun h7 => ?_)
  · conv => whnf
    refine .done ⟨?_, rfl⟩
    rw [ok2, arcOf_out (.inr (by omega))]; rfl
  have ha := arcOf_lt (arcs := arcs) (b := l[i]) (by omega) (by omega)
  have hai : l[i].arc.toNat < arcs.length := by omega
  obtain ⟨g, hg⟩ := ht.ad (by omega)
  conv => whnf
  refine .mk g hg (by omega) (by omega) ?_
  conv => whnf
  refine .hp (iv arcs[l[i].arc.toNat].dst) ?_ ?_
  · rw [add_add]; exact ht.cell g hg _ _ (map_get hai) 1 _ rfl
  conv => whnf
  refine br_dec (fun h8 => ?_) (fun h8 => ?_)
  · conv => whnf
    refine .mk g hg (by omega) (by omega) ?_
    conv => whnf
    refine .hp (iv arcs[l[i].arc.toNat].src) ?_ ?_
    · rw [add_add]; exact ht.cell g hg _ _ (map_get hai) 0 _ rfl
    conv => whnf
    refine .mk _ (hf arcs[l[i].arc.toNat].src) (fun _ _ q => by rw [q.2]; exact Hp.le_refl _) ?_
    rintro _ _ ⟨rfl, rfl⟩
    conv => whnf
    refine .done ⟨?_, rfl⟩
    rw [ok2, ha]
    have := findFrom_ge (v := arcs[l[i].arc.toNat].src) l 0
    simp only [h8, decide_true, Bool.true_and]
    cases e : (firedOf l arcs[l[i].arc.toNat].src).isSome
    · rw [e] at this
      simp only [Bool.false_eq_true, iff_false] at this
      exact congrArg Value.bool (decide_eq_false this)
    · rw [e] at this
      simp only [iff_true] at this
      exact congrArg Value.bool (decide_eq_true this)
  · conv => whnf
    refine .done ⟨?_, rfl⟩
    rw [ok2, ha]
    simp [h8, oneVal]

theorem chkL_zero {N : Int} : ∀ {l : List Arc}, chkL N l = 0 → ∀ a ∈ l, okArc N a = 0
  | [], _, a, h => by cases h
  | b :: l, h, a, ha => by
    simp only [chkL] at h
    split at h
    · rename_i h1; exact absurd h h1
    · rename_i h1
      rcases List.mem_cons.1 ha with rfl | ha
      · exact Decidable.not_not.1 h1
      · exact chkL_zero h a ha
theorem okArc_zero {N : Int} {a : Arc} (h : okArc N a = 0) : 0 ≤ a.src ∧ a.src < N ∧ 0 ≤ a.dst ∧ a.dst < N ∧ 1 ≤ a.give ∧ a.give ≤ 64 ∧ 1 ≤ a.take ∧ a.take ≤ 64 ∧ 0 ≤ a.start ∧ a.start ≤ 256 := by
  cases e1 : okNode N a.src <;> cases e2 : okNode N a.dst <;> cases e3 : okRate a.give <;> cases e4 : okRate a.take <;> simp [okArc, e1, e2, e3, e4] at h
  have h1 := (okNode_iff _ _).1 e1
  have h2 := (okNode_iff _ _).1 e2
  have h3 := (okRate_iff _).1 e3
  have h4 := (okRate_iff _).1 e4
  omega
theorem chk_zero {N : Int} {l : List Arc} (h : chk N l = 0) : 1 ≤ N ∧ N ≤ 32 ∧ l.length ≤ 96 ∧ ∀ a ∈ l, okArc N a = 0 := by
  unfold chk at h
  split at h
  · cases h
  · split at h
    · cases h
    · rename_i h1 h2
      exact ⟨by omega, by omega, by omega, chkL_zero h⟩
/-- what is answered of any blocks of any net -/
def conf (N : Int) (arcs : List Arc) (l : List Blk) : Int := if chk N arcs = 0 then conf0 N arcs l else chk N arcs

theorem confirm12 (N : Int) (A B : Option Addr) (n m cap cap' : Nat) (arcs : List Arc) (l : List Blk) (h : Hp) (ht : Tab h 5 A n (arcs.map Arc.cells)) (hu : Tab h 3 B m (l.map Blk.cells)) (hn : n ≤ 9223372036854775806) (hm : m ≤ 9223372036854775806) :
    Fn Try.prog 12 #[netV N A n cap, .slice B m cap'] h fun r h' => r = iv (conf N arcs l) ∧ h' = h := by
  have hla : arcs.length = n := by simpa using ht.len
  have hl : l.length = m := by simpa using hu.len
  have hw := whole21 (h := h) (ht := ht) (hu := hu) (hm := hm) (N := N) (cap := cap) (cap' := cap')
  have hfd := find22 (h := h) (A := B) (n := m) (cap := cap') (l := l) (ht := hu) (hn := hm)
  refine Fn.intro (args := [netV N A n cap, .slice B m cap']) mix14 Try.func12 rfl (by decide) Try.ntmps12 rfl (low12 rfl) rfl ?_
  conv => whnf
  refine .done (.mk _ (check20 N A n cap arcs h ht hn) ?_)
  rintro _ h' ⟨rfl, rfl⟩
  conv => whnf
  refine br_dec (fun h1 => ?_) (fun h1 => ?_)
  · conv => whnf
    refine .done ⟨?_, rfl⟩
    rw [conf, if_neg h1]; rfl
  have h1 := Decidable.not_not.1 h1
  obtain ⟨n1, n2, n3, n4⟩ := chk_zero h1
  have hc : conf N arcs l = conf0 N arcs l := by rw [conf, if_pos h1]
  rw [hc]
  have hform := formed_whole (N := N) (arcs := arcs) (l := l) (by omega)
  have no : ¬ formed N arcs l → conf0 N arcs l = 140 := fun hh => by rw [conf0, if_neg hh]
  conv => whnf
  refine br_dec (fun h2 => ?_) (fun h2 => ?_)
  · conv => whnf
    refine .done ⟨?_, rfl⟩
    rw [no]
    · rfl
    · rw [hform]
      rintro ⟨q, _⟩
      exact q (List.eq_nil_of_length_eq_zero (by omega))
  conv => whnf
  refine br_dec (fun h3 => ?_) (fun h3 => ?_)
  · conv => whnf
    refine .done ⟨?_, rfl⟩
    rw [no]
    · rfl
    · rw [hform]
      rintro ⟨_, q, _⟩
      omega
  conv => whnf
  refine .mk Nat [1, 2, 6] (fun i => [.v (.slice B m cap'), .p 0 0, .v (iv i)]) (fun _ => [.own [.v (iv N), .v (.slice A n cap)] 24]) (fun i h'' => h'' = h' ∧ i ≤ m ∧ ∀ j b, j < i → l[j]? = some b → wholeB N arcs l j b = true) (fun i => m - i) 0 (fun _ => rfl) ⟨rfl, Nat.zero_le _, fun j b hj => by omega⟩ rfl rfl ?_
  rintro i e h'' ⟨rfl, hi, hf⟩
  conv => whnf
  refine br_dec (fun h4 => ?_) (fun h4 => ?_)
  · have hi' : i < m := by omega
    conv => whnf
    refine .done (.mk _ (hw i (by omega)) ?_)
    rintro _ _ ⟨rfl, rfl⟩
    cases q : wholeB N arcs l i l[i]
    · conv => whnf
      refine .done ⟨?_, rfl⟩
      rw [no]
      · rfl
      · rw [hform]
        rintro ⟨_, _, q'⟩
        rw [q' i l[i] (List.getElem?_eq_getElem _)] at q
        cases q
    conv => whnf
    refine .ok (by omega) (by omega) ?_
    conv => whnf
    refine ⟨i + 1, rfl, rfl, ⟨rfl, hi', fun j b hj hb => ?_⟩, by omega⟩
    rcases Nat.lt_or_eq_of_le (Nat.le_of_lt_succ hj) with hj | rfl
    · exact hf j b hj hb
    · rw [List.getElem?_eq_getElem (by omega)] at hb
      injection hb with hb
      rw [← hb]; exact q
  have hform : formed N arcs l := hform.2 ⟨fun e => by subst e; simp at hl; omega, by omega, fun j b hb => hf j b (by have := (List.getElem?_eq_some_iff.1 hb).1; omega) hb⟩
  have hc0 : conf0 N arcs l = if l.any (loose1 arcs l) then 141 else 0 := by rw [conf0, if_pos hform]
  obtain ⟨f1, f2, f3, f4⟩ := hform
  conv => whnf
  refine .mk Nat [1, 2, 7] (fun i => [.v (.slice B m cap'), .p 0 0, .v (iv i)]) (fun _ => [.own [.v (iv N), .v (.slice A n cap)] 24]) (fun i h' => h' = h'' ∧ i ≤ m ∧ ∀ j b, j < i → l[j]? = some b → loose1 arcs l b = false) (fun i => m - i) 0 (fun _ => rfl) ⟨rfl, Nat.zero_le _, fun j b hj => by omega⟩ rfl rfl ?_
  rintro i e h' ⟨rfl, hi, hf⟩
  conv => whnf
  refine br_dec (fun h4 => ?_) (fun h4 => ?_)
  · have hi' : i < m := by omega
    have hil : i < l.length := by omega
    obtain ⟨g', hg'⟩ := hu.ad (by omega)
    have hb2 := f4 l[i] (List.getElem_mem hil)
    have hb1 := ok1_iff.1 (f2 l[i] (List.getElem_mem hil))
    unfold ok2 at hb2
    split at hb2
    · cases hb2
    rename_i a ha
    simp only [Bool.and_eq_true, decide_eq_true_eq] at hb2
    have ha' := ha
    unfold arcOf at ha'
    split at ha'
    case isFalse => cases ha'
    rename_i ha0
    obtain ⟨hai, haa⟩ := List.getElem?_eq_some_iff.1 ha'
    obtain ⟨g, hg⟩ := ht.ad (by omega)
    obtain ⟨z, hz⟩ := Option.isSome_iff_exists.1 hb2.2
    obtain ⟨jz, bz, z1, z2, z3, z4⟩ := findFrom_some l 0 z hz
    obtain ⟨hjz, hbz⟩ := List.getElem?_eq_some_iff.1 z2
    have hbz1 := ok1_iff.1 (f2 bz (by rw [← hbz]; exact List.getElem_mem hjz))
    have hao := okArc_zero (n4 a (by rw [← haa]; exact List.getElem_mem hai))
    have lo : loose1 arcs l l[i] = decide (a.take * (l[i].fired + 1) ≤ a.start + a.give * z) := by rw [loose1, ha]; simp [hz]
    conv => whnf
    refine .mk g' hg' (by omega) (by omega) ?_
    conv => whnf
    refine .hp (iv l[i].arc) (by rw [Int.toNat_natCast, add_add]; exact hu.cell g' hg' _ _ (map_get hil) 2 _ rfl) ?_
    conv => whnf
    refine .mk g hg (by omega) (by omega) ?_
    conv => whnf
    refine .hp a.cells rfl (by rw [← haa]; exact ht.row hg (map_get hai)) ?_
    conv => whnf
    refine .done (.mk _ (hfd a.src) ?_)
    rintro _ _ ⟨rfl, rfl⟩
    conv => whnf
    refine .mk g' hg' (by omega) (by omega) ?_
    conv => whnf
    refine .hp (iv z) (by rw [add_add, z1, ← z4, ← hbz]; rw [show ((0 : Nat) + (jz : Int)).toNat = jz by omega]; exact hu.cell g' hg' _ _ (map_get hjz) 1 _ rfl) ?_
    obtain ⟨p0, p1⟩ := bnd_mul (x := a.give) (y := z) (a := 64) (b := 4096) (by omega) (by omega) (by omega) (by omega)
    obtain ⟨p2, p3⟩ := bnd_mul (x := a.take) (y := l[i].fired + 1) (a := 64) (b := 4097) (by omega) (by omega) (by omega) (by omega)
    conv => whnf
    refine .ok (by omega) (by omega) ?_
    conv => whnf
    refine .ok (by omega) (by omega) ?_
    conv => whnf
    refine .mk g' hg' (by omega) (by omega) ?_
    conv => whnf
    refine .hp (iv l[i].fired) (by rw [Int.toNat_natCast, add_add]; exact hu.cell g' hg' _ _ (map_get hil) 1 _ rfl) ?_
    conv => whnf
    refine .ok (by omega) (by omega) ?_
    conv => whnf
    refine .ok (by omega) (by omega) ?_
    conv => whnf
    refine br_dec (fun h5 => ?_) (fun h5 => ?_)
    · conv => whnf
      refine .done ⟨?_, rfl⟩
      rw [hc0, if_pos]
      · rfl
      · rw [List.any_eq_true]
        exact ⟨l[i], List.getElem_mem hil, by rw [lo]; exact decide_eq_true h5⟩
    conv => whnf
    refine .ok (by omega) (by omega) ?_
    conv => whnf
    refine ⟨i + 1, rfl, rfl, ⟨rfl, hi', fun j b hj hb => ?_⟩, by omega⟩
    rcases Nat.lt_or_eq_of_le (Nat.le_of_lt_succ hj) with hj | rfl
    · exact hf j b hj hb
    · rw [List.getElem?_eq_getElem (by omega)] at hb
      injection hb with hb
      rw [← hb, lo]; exact decide_eq_false h5
  · conv => whnf
    refine .done ⟨?_, rfl⟩
    rw [hc0, if_neg]
    · rfl
    · rw [Bool.not_eq_true, List.any_eq_false]
      intro b hb
      obtain ⟨j, hj⟩ := List.getElem?_of_mem hb
      have := hf j b (by have := (List.getElem?_eq_some_iff.1 hj).1; omega) hj
      simp [this]
end Go.Sx
