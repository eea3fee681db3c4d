/- Layer 14: the program's own answer. Conditions: none. -/
import Derived.Test.YtbgfmfgffooniaaS4
namespace Go.Sx
open Go.Proofs
theorem Hp.put_put (h : Hp) (b : Nat) (o o' : Obj) : (h.put b o).put b o' = h.put b o' := by
  funext j
  simp only [Hp.put]
  split <;> rfl
theorem ok1_none {N : Int} {arcs : List Arc} {l : List Blk} {b : Blk} (hb : b ∈ l) (h : ok1 N b = false) : ¬ formed N arcs l := fun hf => by
  rw [hf.2.1 b hb] at h; cases h
theorem take_succ' {α : Type} {l : List α} {i : Nat} (hi : i < l.length) : l.take (i + 1) = l.take i ++ [l[i]] := by
  rw [List.take_append_getElem]
theorem confirm11 (N : Int) (A B : Option Addr) (n m cap cap' : Nat) (arcs : List Arc) (l : List Blk) (h : Hp) (ht : Tab h 5 A n (arcs.map Arc.cells)) (hu : Tab h 3 B m (l.map Blk.cells)) (hn : n ≤ 9223372036854775806) (hm : m ≤ 9223372036854775806) :
    Fn Try.prog 11 #[netV N A n cap, .slice B m cap'] h fun r h' => r = iv (conf N arcs l) ∧ h.le h' := by
  have hla : arcs.length = n := by simpa using ht.len
  have hl : l.length = m := by simpa using hu.len
  refine Fn.intro (args := [netV N A n cap, .slice B m cap']) mix14 Try.func11 rfl (by decide) Try.ntmps11 rfl (low11 rfl) rfl ?_
  conv => whnf
  refine .done (.mk _ (check19 N A n cap arcs h ht hn) ?_)
  rintro _ h' ⟨rfl, rfl⟩
  conv => whnf
  refine br_dec (fun h1 => ?_) (fun h1 => ?_)
  · conv => whnf
    refine .done ⟨?_, Hp.le_refl _⟩
    rw [conf, if_neg h1]; rfl
  have h1 := Decidable.not_not.1 h1
  obtain ⟨n1, n2, n3, n4⟩ := chk_zero h1
  have hc : conf N arcs l = conf0 N arcs l := by rw [conf, if_pos h1]
  rw [hc]
  have no : ¬ formed N arcs l → conf0 N arcs l = 140 := fun hh => by rw [conf0, if_neg hh]
  conv => whnf
  refine br_dec (fun h2 => ?_) (fun h2 => ?_)
  · conv => whnf
    refine .done ⟨?_, Hp.le_refl _⟩
    rw [no]
    · rfl
    · rintro ⟨q, _⟩
      exact q (List.eq_nil_of_length_eq_zero (by omega))
  conv => whnf
  refine .mk fun mb hmb => ?_
  have hle : ∀ o, h'.le (h'.put mb o) := fun o => Hp.le_put hmb
  conv => whnf
  refine .mk Nat [1, 2, 6, 26, 27, 28] (fun i => [.v (.slice B m cap'), .p 0 0, .v (.map (some mb)), .v (.slice B m cap'), .v (iv m), .v (iv i)]) (fun _ => [.own [.v (iv N), .v (.slice A n cap)] 24])
    (fun i h1 => ∃ es clk, h1 = h'.put mb (mapObj 0 es clk) ∧ MapAt h1 mb 0 es clk ∧ i ≤ m ∧ (∀ v, assoc es [v] = (firedOf (l.take i) v).map iv) ∧ (∀ b ∈ l.take i, ok1 N b = true) ∧ ((l.take i).map Blk.node).Nodup)
    (fun i => m - i) 0 (fun _ => rfl) ⟨[], 0, rfl, ⟨Hp.put_same _ _ _, fun x hx => by cases hx⟩, Nat.zero_le _, fun v => rfl, (fun b hb => by simp at hb), by simp⟩ rfl rfl ?_
  rintro i e _ ⟨es, clk, rfl, hma, hi, has, hk1, hkn⟩
  have hu1 := hu.mono (hle (mapObj 0 es clk))
  have ht1 := ht.mono (hle (mapObj 0 es clk))
  conv => whnf
  refine br_dec (fun h4 => ?_) (fun h4 => ?_)
  · have hi' : i < m := by omega
    have hil : i < l.length := by omega
    obtain ⟨g', hg'⟩ := hu.ad (by omega)
    conv => whnf
    refine .mk g' hg' (by omega) (by omega) ?_
    conv => whnf
    refine .hp l[i].cells rfl (by rw [Int.toNat_natCast]; exact hu1.row hg' (map_get hil)) ?_
    conv => whnf
    refine .mk es clk hma ?_
    have hai := has l[i].node
    cases hfo : firedOf (l.take i) l[i].node with
    | some z =>
      rw [hfo] at hai
      have hai : assoc es [l[i].node] = some (iv z) := hai
      rw [hai]
      conv => whnf
      refine .done ⟨?_, hle _⟩
      rw [no]
      · rfl
      · rintro ⟨_, _, q, _⟩
        obtain ⟨b, hb, hbn, _⟩ := firedOf_mem hfo
        obtain ⟨j, hj⟩ := List.getElem?_of_mem hb
        obtain ⟨hj1, hj2⟩ := List.getElem?_eq_some_iff.1 hj
        simp only [List.length_take] at hj1
        simp only [List.getElem_take] at hj2
        refine List.pairwise_iff_getElem.1 q j i (by simp; omega) (by simpa using hil) (by omega) ?_
        simp [hj2, hbn]
    | none =>
      rw [hfo] at hai
      have hai : assoc es [l[i].node] = none := hai
      rw [hai]
      have bad : ok1 N l[i] = false → conf0 N arcs l = 140 := fun e => no (ok1_none (List.getElem_mem hil) e)
      conv => whnf
      refine br_dec (fun h5 => ?_) (fun h5 => ?_)
      · conv => whnf
        refine .done ⟨?_, hle _⟩
        rw [bad (ok1_no (by omega))]; rfl
      conv => whnf
      refine br_dec (fun h6 => ?_) (fun h6 => ?_)
      · conv => whnf
        refine .done ⟨?_, hle _⟩
        rw [bad (ok1_no (by omega))]; rfl
      conv => whnf
      refine br_dec (fun h7 => ?_) (fun h7 => ?_)
      · conv => whnf
        refine .done ⟨?_, hle _⟩
        rw [bad (ok1_no (by omega))]; rfl
      conv => whnf
      refine br_dec (fun h8 => ?_) (fun h8 => ?_)
      · conv => whnf
        refine .done ⟨?_, hle _⟩
        rw [bad (ok1_no (by omega))]; rfl
      conv => whnf
      refine .mk es clk hma fun clk' => ?_
      conv => whnf
      refine .ok (by omega) (by omega) ?_
      conv => whnf
      refine ⟨i + 1, rfl, rfl, ⟨upsert es [l[i].node] (iv l[i].fired) clk, clk', ?_, ?_, hi', fun v => ?_, ?_, ?_⟩, by omega⟩
      · rw [Hp.put_put]
      · exact hma.upsert rfl _ _
      · rw [assoc_upsert, take_succ' hil, firedOf_append, has v]
        by_cases e : v = l[i].node
        · subst e
          rw [hfo]
          simp
        · have e' : l[i].node ≠ v := fun x => e x.symm
          have e'' : ¬ [v] = [l[i].node] := by simpa using e
          rw [if_neg e', if_neg e'']
          simp
      · rw [take_succ' hil]
        intro b hb
        rcases List.mem_append.1 hb with hb | hb
        · exact hk1 b hb
        · rw [List.mem_singleton.1 hb]; exact ok1_iff.2 (by omega)
      · rw [take_succ' hil, List.map_append, List.nodup_append]
        refine ⟨hkn, by simp, ?_⟩
        intro x hx y hy e
        obtain ⟨b, hb, rfl⟩ := List.mem_map.1 hx
        simp only [List.map_cons, List.map_nil, List.mem_singleton] at hy
        exact firedOf_none.1 hfo b hb (e.trans hy)
  rw [List.take_of_length_le (by omega)] at has hk1 hkn
  have hfm : ∀ b ∈ l, ok2 arcs l b = false → conf0 N arcs l = 140 := fun b hb e => no fun hf => by rw [hf.2.2.2 b hb] at e; cases e
  conv => whnf
  refine .mk Nat [2, 6, 11, 68, 69, 70] (fun i => [.p 0 0, .v (.map (some mb)), .v (.bool ((l.take i).any (loose1 arcs l))), .v (.slice B m cap'), .v (iv m), .v (iv i)]) (fun _ => [.own [.v (iv N), .v (.slice A n cap)] 24])
    (fun i h2 => h2 = h'.put mb (mapObj 0 es clk) ∧ i ≤ m ∧ ∀ b ∈ l.take i, ok2 arcs l b = true)
    (fun i => m - i) 0 (fun _ => rfl) ⟨rfl, Nat.zero_le _, (fun b hb => by simp at hb)⟩ rfl rfl ?_
  rintro i e _ ⟨rfl, hi, hf⟩
  conv => whnf
  refine br_dec (fun h4 => ?_) (fun h4 => ?_)
  · have hi' : i < m := by omega
    have hil : i < l.length := by omega
    have hlm := List.getElem_mem hil
    obtain ⟨g', hg'⟩ := hu.ad (by omega)
    have hb1 := ok1_iff.1 (hk1 l[i] hlm)
    conv => whnf
    refine .mk g' hg' (by omega) (by omega) ?_
    conv => whnf
    refine .hp l[i].cells rfl (by rw [Int.toNat_natCast]; exact hu1.row hg' (map_get hil)) ?_
    conv => whnf
    refine br_dec (fun h6 => ?_) (fun h6 => ?_)
    · conv => whnf
      refine .done ⟨?_, hle _⟩
      rw [hfm l[i] hlm (by rw [ok2, arcOf_out (.inl h6)])]; rfl
    conv => whnf
    refine br_dec (fun h7 => ?_) (fun h7 => ?_)
    · conv => whnf
      refine .done ⟨?_, hle _⟩
      rw [hfm l[i] hlm (by rw [ok2, arcOf_out (.inr (by omega))])]; rfl
    have ha := arcOf_lt (arcs := arcs) (b := l[i]) (by omega) (by omega)
    have hai : l[i].arc.toNat < arcs.length := by omega
    obtain ⟨g, hg⟩ := ht.ad (by omega)
    have hao := okArc_zero (n4 _ (List.getElem_mem hai))
    generalize haa : arcs[l[i].arc.toNat] = a at ha hao
    conv => whnf
    refine .mk g hg (by omega) (by omega) ?_
    conv => whnf
    refine .hp a.cells rfl (by rw [← haa]; exact ht1.row hg (map_get hai)) ?_
    conv => whnf
    refine .mk es clk hma ?_
    have hai := has a.src
    have o2 : ok2 arcs l l[i] = (decide (a.dst = l[i].node) && (firedOf l a.src).isSome) := by rw [ok2, ha]
    have hnext : ∀ b, ok2 arcs l l[i] = true → loose1 arcs l l[i] = b → (∀ c ∈ l.take (i + 1), ok2 arcs l c = true) ∧ (l.take (i + 1)).any (loose1 arcs l) = ((l.take i).any (loose1 arcs l) || b) := fun b q1 q2 => by
      rw [take_succ' hil]
      refine ⟨fun c hc => ?_, by rw [List.any_append, List.any_cons, List.any_nil, Bool.or_false, q2]⟩
      rcases List.mem_append.1 hc with hc | hc
      · exact hf c hc
      · rw [List.mem_singleton.1 hc]; exact q1
    cases hfo : firedOf l a.src with
    | none =>
      rw [hfo] at hai o2
      have hai : assoc es [a.src] = none := hai
      rw [hai]
      have q : ok2 arcs l l[i] = false := by rw [o2]; simp
      conv => whnf
      refine br_dec (fun h8 => ?_) (fun h8 => ?_)
      · conv => whnf
        refine .done ⟨?_, hle _⟩
        rw [hfm l[i] hlm q]; rfl
      · conv => whnf
        refine .done ⟨?_, hle _⟩
        rw [hfm l[i] hlm q]; rfl
    | some z =>
      rw [hfo] at hai o2
      have hai : assoc es [a.src] = some (iv z) := hai
      rw [hai]
      obtain ⟨bz, hbz, _, hbz2⟩ := firedOf_mem hfo
      have hbz1 := ok1_iff.1 (hk1 bz hbz)
      conv => whnf
      refine br_dec (fun h8 => ?_) (fun h8 => ?_)
      · conv => whnf
        refine .done ⟨?_, hle _⟩
        rw [hfm l[i] hlm (by rw [o2]; simp [h8])]; rfl
      have q : ok2 arcs l l[i] = true := by rw [o2]; simp [Decidable.not_not.1 h8]
      have lo : loose1 arcs l l[i] = decide (a.take * (l[i].fired + 1) ≤ a.start + a.give * z) := by rw [loose1, ha]; simp [hfo]
      obtain ⟨p0, p1⟩ := bnd_mul (x := a.give) (y := z) (a := 64) (b := 4096) (by omega) (by omega) (by omega) (by omega)
      obtain ⟨p2, p3⟩ := bnd_mul (x := a.take) (y := l[i].fired + 1) (a := 64) (b := 4097) (by omega) (by omega) (by omega) (by omega)
      obtain ⟨r1, r2⟩ := hnext _ q lo
      cases hlo : (l.take i).any (loose1 arcs l)
      · rw [hlo] at r2
        conv => whnf
        refine .ok (by omega) (by omega) ?_
        conv => whnf
        refine .ok (by omega) (by omega) ?_
        conv => whnf
        refine .ok (by omega) (by omega) ?_
        conv => whnf
        refine .ok (by omega) (by omega) ?_
        conv => whnf
        refine .ok (by omega) (by omega) ?_
        conv => whnf
        exact ⟨i + 1, by rw [r2]; rfl, rfl, ⟨rfl, hi', r1⟩, by omega⟩
      · rw [hlo] at r2
        conv => whnf
        refine .ok (by omega) (by omega) ?_
        conv => whnf
        exact ⟨i + 1, by rw [r2]; rfl, rfl, ⟨rfl, hi', r1⟩, by omega⟩
  · rw [List.take_of_length_le (by omega)] at hf
    have hform : formed N arcs l := ⟨fun e => by subst e; simp at hl; omega, hk1, hkn, hf⟩
    have hc0 : conf0 N arcs l = if l.any (loose1 arcs l) then 141 else 0 := by rw [conf0, if_pos hform]
    rw [List.take_of_length_le (by omega)]
    cases q : l.any (loose1 arcs l)
    · conv => whnf
      refine .done ⟨?_, hle _⟩
      rw [hc0, q]; rfl
    · conv => whnf
      refine .done ⟨?_, hle _⟩
      rw [hc0, q]; rfl
end Go.Sx
