/- append and make: what the rules say is what the model does. Conditions: none. -/
import Derived.Test.YthibgmkobcbhhaaGreatSx8
namespace Go.Sx
open Go.RowKit
section
variable {P : Program} {h0 : Hp} {w0 : World} {n : Nat} {β : Nat → Nat} {L : List LE} {h : Hp} {e : Env} {a : Act} {w : World}

/-- A row of the walk's own has grown, perhaps into a new block. -/
theorem Mem.grow (m : Mem h0 w0 β L h w) (hL : OkL L) {i ety size nn cap n' cap' : Nat} {A A' : Option Addr} {xs xs' : List Value} {w' : World} (hi : nth L i = some (.row ety size A nn cap xs))
    (hg : w.grownBy w' (Value.ownBlock (.slice A nn cap))) (hown : w'.ownsRow 0 ety size (.slice A' n' cap') n' xs')
    (hat : Value.ownBlock (.slice A' n' cap') = Value.ownBlock (.slice A nn cap) ∨ Value.ownBlock (.slice A' n' cap') = some w.heap.size) :
    ∃ β', (∀ j, refOk L j → β' j = β j) ∧ Mem h0 w0 β' (setn L i (.row ety size A' n' cap' xs')) h w' ∧ (∀ j, refOk L j → refOk (setn L i (.row ety size A' n' cap' xs')) j) ∧ (∀ j, j ≠ i → β' j = β j) := by
  have hlt := nth_lt hi
  obtain ⟨⟨_, _⟩, hold3⟩ := m.see.see i _ hi
  -- the new block
  have hblk : ∃ b, (∀ g, A' = some g → g.block = b) ∧ (A'.isSome = true → (A.isSome = true ∧ b = β i) ∨ b = w.heap.size) := by
    cases A' with
    | none => exact ⟨0, (fun g e => by cases e), (fun e => by cases e)⟩
    | some g =>
      refine ⟨g.block, fun g' e => by injection e with e; rw [e], fun _ => ?_⟩
      simp only [Value.ownBlock] at hat
      rcases hat with hq | hq
      · cases A with
        | none => cases hq
        | some g2 =>
          injection hq with hq
          exact .inl ⟨rfl, by rw [hq]; exact hold3 g2 rfl⟩
      · injection hq with hq; exact .inr hq
  obtain ⟨b, hb, hcase⟩ := hblk
  -- what was there is there
  have hkeep : ∀ j, j < w.heap.size → (∀ g, A = some g → j ≠ g.block) → w'.heap[j]? = w.heap[j]? := fun j hj hne => hg.block j hj (by
    cases A with
    | none => simp [Value.ownBlock]
    | some g => simp only [Value.ownBlock]; intro e; injection e with e; exact hne g rfl e)
  have hne : ∀ j l, j ≠ i → nth L j = some l → l.live = true → ∀ g, A = some g → β j ≠ g.block := fun j l hj hl hv g e he => by
    refine hj (m.inj j i l _ hl hi hv (by rw [e]; rfl) ?_)
    rw [he]; exact hold3 g e
  have hβ : ∀ j, j ≠ i → (if j = i then b else β j) = β j := fun j hj => if_neg hj
  have hβr : ∀ j, refOk L j → (if j = i then b else β j) = β j := fun j ⟨l, hl, hr⟩ => hβ j fun e => by
    subst e; rw [hi] at hl; injection hl with hl; subst hl; cases hr
  have hsplit : ∀ j k, nth (setn L i (.row ety size A' n' cap' xs')) j = some k → (j = i ∧ k = .row ety size A' n' cap' xs') ∨ (j ≠ i ∧ nth L j = some k) := by
    intro j k hk
    rw [nth_setn _ _ _ _ hlt] at hk
    split at hk
    · injection hk with hk; exact .inl ⟨by assumption, hk.symm⟩
    · exact .inr ⟨by assumption, hk⟩
  have hobj : ∀ j l, j ≠ i → nth L j = some l → l.live = true → w'.heap[β j]? = w.heap[β j]? := fun j l hj hl hv => hkeep _ (m.lt j l hl hv) (fun g e => hne j l hj hl hv g e)
  have hAh : ∀ g, A = some g → h g.block = none := fun g e => by
    have := m.hole i _ hi (by rw [e]; rfl)
    rw [hold3 g e]; exact this
  have hbh : A'.isSome = true → h b = none := fun e => by
    rcases hcase e with ⟨q1, q2⟩ | q2
    · rw [q2]; exact m.hole i _ hi q1
    · rw [q2]; exact m.see.hw.out (Nat.le_refl _)
  have hother : ∀ j l, j ≠ i → nth L j = some l → l.live = true → A'.isSome = true → β j ≠ b := fun j l hj hl hv e he => by
    rcases hcase e with ⟨q1, q2⟩ | q2
    · exact hj (m.inj j i l _ hl hi hv q1 (by rw [he, q2]))
    · have := m.lt j l hl hv; omega
  refine ⟨fun j => if j = i then b else β j, hβr, ⟨⟨fun j o ho => ?_, fun j k hk => ?_⟩, fun j k hk hkv => ?_, fun j j' k k' hk hk' hkv hkv' he => ?_, fun j k hk hkv => ?_, fun j k hk hkv => ?_, hg.os.trans m.os, hg.tape.trans m.tape, hg.output.trans m.output, Nat.le_trans m.size hg.size, fun j hj hn => ?_, m.fresh⟩, fun j hj => ?_, hβ⟩
  · rw [hkeep j (m.see.hw.lt (by rw [ho]; simp)) (fun g e q => by rw [q, hAh g e] at ho; cases ho)]
    exact m.see.hw j o ho
  · rcases hsplit j k hk with ⟨q1, q2⟩ | ⟨hj, hk⟩
    · subst q2
      simp only [LE.sees, if_pos q1]
      exact ⟨hown, hb⟩
    · have hs := m.see.see j k hk
      cases k with
      | own cs ty => simp only [LE.sees] at hs ⊢; rw [hβ j hj, hobj j _ hj hk rfl, cs_agree (hL j cs ty hk) hβr]; exact hs
      | pub b' => simp only [LE.sees] at hs ⊢; rw [hβ j hj]; exact hs
      | row ety2 size2 A2 n2 cap2 xs2 =>
        simp only [LE.sees] at hs ⊢
        rw [hβ j hj]
        obtain ⟨⟨h1, h2⟩, h3⟩ := hs
        refine ⟨⟨h1, ?_⟩, h3⟩
        rcases h2 with h2 | ⟨g, c, cur, e1, e2, e3, e4⟩
        · exact .inl h2
        · injection e1 with e1 e1' e1''
          have hgb := h3 _ e1
          subst e1
          simp only at hgb
          refine .inr ⟨g, c, cur, by rw [e1''], e2, ?_, e4⟩
          rw [hgb, hobj j _ hj hk rfl, ← hgb]; exact e3
      | map f k2 => simp only [LE.sees] at hs ⊢; rw [hβ j hj, hobj j _ hj hk rfl]; exact hs
      | gone => trivial
  · rcases hsplit j k hk with ⟨q1, q2⟩ | ⟨hj, hk⟩
    · subst q2; simp only [if_pos q1]; exact hbh hkv
    · simp only [hβ j hj]; exact m.hole j k hk hkv
  · rcases hsplit j k hk with ⟨q1, q2⟩ | ⟨q1, q2⟩ <;> rcases hsplit j' k' hk' with ⟨q3, q4⟩ | ⟨q3, q4⟩
    · rw [q1, q3]
    · subst q2
      simp only [if_pos q1, hβ j' q3] at he
      exact absurd he.symm (hother j' k' q3 q4 hkv' hkv)
    · subst q4
      simp only [if_pos q3, hβ j q1] at he
      exact absurd he (hother j k q1 q2 hkv hkv')
    · simp only [hβ j q1, hβ j' q3] at he
      exact m.inj j j' k k' q2 q4 hkv hkv' he
  · rcases hsplit j k hk with ⟨q1, q2⟩ | ⟨hj, hk⟩
    · subst q2
      simp only [if_pos q1]
      cases A' with
      | none => cases hkv
      | some g =>
        rcases hown.2 with ⟨q, _⟩ | ⟨g2, c, cur, e1, e2, e3, e4⟩
        · cases q
        · injection e1 with e1 _ _
          injection e1 with e1
          rw [← hb g rfl, e1]
          exact (Array.getElem?_eq_some_iff.1 e3).1
    · simp only [hβ j hj]; exact Nat.lt_of_lt_of_le (m.lt j k hk hkv) hg.size
  · rcases hsplit j k hk with ⟨q1, q2⟩ | ⟨hj, hk⟩
    · subst q2
      simp only [if_pos q1]
      rcases hcase hkv with ⟨q2, q3⟩ | q3
      · rw [q3]; exact m.lo i _ hi q2
      · rw [q3]; exact .inr m.size
    · simp only [hβ j hj]; exact m.lo j k hk hkv
  · rw [hkeep j (Nat.lt_of_lt_of_le hj m.size) (fun g e q => ?_)]
    · exact m.frame j hj hn
    · rcases m.lo i _ hi (by rw [e]; rfl) with hh | hh
      · rw [← hold3 g e, ← q] at hh; exact hh hn
      · rw [← hold3 g e, ← q] at hh; omega
  · obtain ⟨k, hk, hkr⟩ := hj
    by_cases e : j = i
    · subst e; rw [hi] at hk; injection hk with hk; subst hk; cases hkr
    · exact ⟨k, by rw [nth_setn _ _ _ _ hlt, if_neg e]; exact hk, hkr⟩

/-- A nil row is noted. -/
theorem Mem.nilRow (m : Mem h0 w0 β L h w) (hL : OkL L) (ety size : Nat) : Mem h0 w0 β (L ++ [.row ety size none 0 0 []]) h w ∧ OkL (L ++ [.row ety size none 0 0 []]) := by
  have hold : ∀ i l, nth (L ++ [LE.row ety size none 0 0 []]) i = some l → (nth L i = some l) ∨ (l = .row ety size none 0 0 []) := by
    intro i l hl
    rw [nth_snoc] at hl
    split at hl
    · exact .inl hl
    · split at hl
      · injection hl with hl; exact .inr hl.symm
      · cases hl
  have hlive : ∀ i l, nth (L ++ [LE.row ety size none 0 0 []]) i = some l → l.live = true → nth L i = some l := fun i l hl hv => by
    rcases hold i l hl with hh | rfl
    · exact hh
    · cases hv
  refine ⟨⟨⟨m.see.hw, fun i l hl => ?_⟩, fun i l hl hv => m.hole i l (hlive i l hl hv) hv, fun i j l l' hl hl' hv hv' => m.inj i j l l' (hlive i l hl hv) (hlive j l' hl' hv') hv hv', fun i l hl hv => m.lt i l (hlive i l hl hv) hv,
    fun i l hl hv => m.lo i l (hlive i l hl hv) hv, m.os, m.tape, m.output, m.size, m.frame, m.fresh⟩, ?_⟩
  · rcases hold i l hl with hh | rfl
    · exact m.see.see i l hh
    · simp only [LE.sees]
      exact ⟨⟨by simp, .inl ⟨rfl, rfl⟩⟩, fun g e => by cases e⟩
  · intro i cs t hi x hx
    rcases hold i _ hi with hh | hh
    · exact c1_ok (hL i cs t hh x hx) fun i => refOk_snoc _
    · cases hh

theorem run_append_nilsrc {t ty el : TypeId} {i : TypeInfo} {size : Nat} (ht : P.underlying t = some (.slice el)) (hi : P.info? el = some i) {v : Value} {k : Nat} {xs : List Value} (hown : w.ownsRow 0 el size v k xs) (c : Nat) :
    (Builtin.append_ #[t, t] ty #[v, .slice none 0 c]).run P w = .ok v w := by
  rcases hown.2 with ⟨rfl, rfl⟩ | ⟨g, cap, cur, rfl, _, _, hnc, _⟩
  · simp [Builtin.append_, run_underlying ht, sizeOf, typeInfo, hi, Builtin.lenOf, Builtin.firstCells]
  · simp [Builtin.append_, run_underlying ht, sizeOf, typeInfo, hi, Builtin.lenOf, Builtin.firstCells, hnc, storeCells]

/-- the source of an append, in the memory itself -/
def SrcW (w : World) (size : Nat) (B : Option Addr) (k : Nat) (vs : List Value) : Prop :=
  vs.length = k * size ∧ ((B = none ∧ k = 0) ∨ ∃ b, B = some b ∧ ∀ j v, vs[j]? = some v → w.cell? (b.add j) = some v)
theorem src_w (s : See β L h w) {size : Nat} {B : Option Addr} {k : Nat} {vs : List Value} (hs : Src L h size B k vs) : SrcW w size B k vs := by
  cases hs with
  | nil hm =>
    subst hm
    refine ⟨by simp, ?_⟩
    cases B with
    | none => exact .inl ⟨rfl, rfl⟩
    | some b => exact .inr ⟨b, rfl, fun j v e => by simp at e⟩
  | hp b vs hB hl hc => exact ⟨hl, .inr ⟨b, hB, fun j v e => s.hw.cell (hc j v e)⟩⟩
  | row i ety sz g n cap xs vs j hi hB hl hc => exact ⟨hl, .inr ⟨_, hB, fun q v e => by rw [add_add]; exact sees_row s hi (hc q v e)⟩⟩

theorem run_append_w {t ty el : TypeId} {i : TypeInfo} {z : Value} {size bytes : Nat} (ht : P.underlying t = some (.slice el)) (hi : P.info? el = some i) (hz : i.zero = some z) (hsize : i.size = size) (hby : i.bytes = bytes) (hzs : z.cells.size = size) (hsz : 0 < size)
    {v : Value} {k : Nat} {xs : List Value} (hown : w.ownsRow 0 el size v k xs) {B : Option Addr} {q c : Nat} {vs : List Value} (hs : SrcW w size B q vs) (h1 : ∀ u ∈ vs, u.oneCell' = true) (h63 : k + q ≤ maxLen) (hb : (k + q) * bytes ≤ 140737488355328) :
    ∃ v' w', (Builtin.append_ #[t, t] ty #[v, .slice B q c]).run P w = .ok v' w' ∧ w'.ownsRow 0 el size v' (k + q) (xs ++ vs) ∧ w.grownBy w' v.ownBlock ∧
      (v' = .slice none 0 0 ↔ v = .slice none 0 0 ∧ q = 0) ∧ (v'.ownBlock = v.ownBlock ∨ v'.ownBlock = some w.heap.size) := by
  obtain ⟨hl, hs⟩ := hs
  rcases hs with ⟨rfl, rfl⟩ | ⟨b, rfl, hc⟩
  · have : vs = [] := List.eq_nil_of_length_eq_zero (by simpa using hl)
    subst this
    exact ⟨v, w, run_append_nilsrc ht hi hown c, by simpa using hown, World.grownBy.refl w _, by simp, .inl rfl⟩
  · exact run_append_own_at (P := P) w 0 t ty el i z size bytes ht hi hz hsize hby hzs hsz v k xs hown b q c vs hl hc h1 h63 hb (Nat.zero_le _)

theorem row_form {el size k : Nat} {v : Value} {xs : List Value} (hown : w.ownsRow 0 el size v k xs) : ∃ A cap, v = .slice A k cap := by
  rcases hown.2 with ⟨rfl, rfl⟩ | ⟨g, cap, cur, rfl, _⟩
  · exact ⟨_, _, rfl⟩
  · exact ⟨_, _, rfl⟩
theorem row_nil {el size k cap : Nat} {A : Option Addr} {xs : List Value} (hown : w.ownsRow 0 el size (.slice A k cap) k xs) : (Value.slice A k cap = .slice none 0 0) ↔ A = none := by
  constructor
  · intro e; injection e
  · intro e
    subst e
    rcases hown.2 with ⟨q, _⟩ | ⟨g, c, cur, q, _⟩
    · exact q
    · cases q

theorem row_cap {el size k cap : Nat} {A : Option Addr} {xs : List Value} (hown : w.ownsRow 0 el size (.slice A k cap) k xs) : k ≤ cap := by
  rcases hown.2 with ⟨q, q2⟩ | ⟨g, c, cur, q, _, _, h, _⟩
  · omega
  · injection q with _ _ q; omega

theorem evapp_sound {t ty el : TypeId} {i : TypeInfo} {z : Value} {size bytes : Nat} (ht : P.underlying t = some (.slice el)) (hi : P.info? el = some i) (hz : i.zero = some z) (hsize : i.size = size) (hby : i.bytes = bytes) (hzs : z.cells.size = size) (hsz : 0 < size)
    {A B : Option Addr} {k cap q c : Nat} {S : List Value → Prop} {K : SV → List LE → Prop} (m : Mem h0 w0 β L h w) (hL : OkL L) (hS : ∀ vs, S vs → SrcW w size B q vs) (hp : EvAppend el size bytes A k cap q S L K) :
    ∃ A' cap' n' β' L' w', (Builtin.append_ #[t, t] ty #[.slice A k cap, .slice B q c]).run P w = .ok (.slice A' n' cap') w' ∧ K (.v (.slice A' n' cap')) L' ∧ Mem h0 w0 β' L' h w' ∧ OkL L' ∧ (∀ j, refOk L j → refOk L' j) ∧ (∀ j, refOk L j → β' j = β j) := by
  cases hp with
  | old j xs vs hj hs h1 hm hb kk =>
    have hown := (m.see.see j _ hj).1
    obtain ⟨v', w', hrun, hown', hg, hnil, hat⟩ := run_append_w (ty := ty) (c := c) ht hi hz hsize hby hzs hsz hown (hS vs hs) h1 hm hb
    obtain ⟨A', cap', rfl⟩ := row_form hown'
    obtain ⟨β', b1, m', href, _⟩ := m.grow hL hj hg hown' hat
    refine ⟨A', cap', _, β', _, w', hrun, kk A' cap' ?_, m', hL.setOther (nth_lt hj) href (fun _ _ e => by cases e), href, b1⟩
    rw [row_nil hown', row_nil hown] at hnil
    exact ⟨hnil, row_cap hown'⟩
  | fresh vs hA hn hcp hs h1 hm hb kk =>
    subst hA; subst hn; subst hcp
    obtain ⟨m1, hL1⟩ := m.nilRow hL el size
    have hj : nth (L ++ [LE.row el size none 0 0 []]) L.length = some (.row el size none 0 0 []) := by rw [nth_snoc]; simp
    have hown := (m1.see.see _ _ hj).1
    obtain ⟨v', w', hrun, hown', hg, hnil, hat⟩ := run_append_w (ty := ty) (c := c) ht hi hz hsize hby hzs hsz hown (hS vs hs) h1 (by simpa using hm) (by simpa using hb)
    obtain ⟨A', cap', rfl⟩ := row_form hown'
    obtain ⟨β', b1, m', href, _⟩ := m1.grow hL1 hj hg hown' hat
    have hset : setn (L ++ [LE.row el size none 0 0 []]) L.length (.row el size A' (0 + q) cap' ([] ++ vs)) = L ++ [.row el size A' q cap' vs] := by
      rw [setn_eq, List.set_append_right _ _ (Nat.le_refl _)]
      simp
    rw [hset] at m' href
    rw [row_nil hown', row_nil hown] at hnil
    simp only [true_and] at hnil
    have e0 : 0 + q = q := Nat.zero_add q
    rw [e0] at hrun
    have hL' := hL1.setOther (nth_lt hj) (by rw [hset]; exact href) (fun _ _ e => by cases e)
    rw [hset] at hL'
    exact ⟨A', cap', q, β', _, w', hrun, kk A' cap' ⟨hnil, by have := row_cap hown'; omega⟩, m', hL', fun j hj => href j (refOk_snoc _ hj), fun j hj => b1 j (refOk_snoc _ hj)⟩
  | keep j g xs vs hA hj hs h1 h0 hm hb k1 k2 =>
    subst hA
    have hown := (m.see.see j _ hj).1
    have hsrc := hS vs hs
    obtain ⟨v', w', hrun, hown', hg, hnil, hat⟩ := run_append_w (ty := ty) (c := c) ht hi hz hsize hby hzs hsz hown hsrc h1 hm hb
    obtain ⟨hl, hs2⟩ := hsrc
    have hsb : ∃ b, B = some b ∧ ∀ j v, vs[j]? = some v → w.cell? (b.add j) = some v := by
      rcases hs2 with ⟨_, q0⟩ | hs2
      · omega
      · exact hs2
    obtain ⟨b, rfl, hcell⟩ := hsb
    have hold : ∃ cur, g = ⟨g.block, 0, none⟩ ∧ w.heap[g.block]? = some (.cells cur el (0, 0)) ∧ cur.size = cap * size ∧ xs.length = k * size ∧ cur.toList.take (k * size) = xs := by
      rcases hown.2 with ⟨q1, _⟩ | ⟨g1, c1, cur, q1, _, q3, _, _, q6, q7⟩
      · cases q1
      · injection q1 with e1 _ e3
        injection e1 with e1
        subst e1; subst e3
        exact ⟨cur, rfl, q3, q6, hown.1, q7⟩
    obtain ⟨cur, eg, hcur, hcs, hxl, hxs⟩ := hold
    by_cases hroom : k + q ≤ cap
    · have hfit : k * i.size + vs.length ≤ cur.size := by rw [hl, hsize, hcs, ← Nat.add_mul]; exact Nat.mul_le_mul_right _ hroom
      have hr := run_append_room (P := P) w t ty el i ht hi g.block k cap cur hcur b q c vs (by rw [hsize]; exact hl) hcell h1 hroom hfit
      rw [← eg, hrun] at hr
      injection hr with hv hw
      subst hv
      obtain ⟨β', b1, m', href, _⟩ := m.grow hL hj hg hown' (.inl rfl)
      exact ⟨_, _, _, β', _, w', hrun, k1 hroom, m', hL.setOther (nth_lt hj) href (fun _ _ e => by cases e), href, b1⟩
    · have holds : ∀ j u, xs[j]? = some u → w.cell? (g.add j) = some u := fun p u hu => sees_row m.see hj hu
      have h63 : ((k + q : Nat) : Int) ≤ 9223372036854775807 := by simp only [maxLen] at hm; omega
      have hr := run_append_grow (P := P) w t ty el i z ht hi hz g k cap xs (by rw [hsize]; exact hxl) holds b q c vs (by rw [hsize]; exact hl) hcell (by omega) h63 (by rw [hby]; exact growslice_fits (by omega) hb)
      rw [hrun] at hr
      injection hr with hv hw
      subst hv
      have hg0 : w.grownBy w' (Value.ownBlock (.slice none 0 0)) := by
        refine ⟨hg.os, hg.tape, hg.output, hg.size, fun p hp _ => ?_⟩
        rw [hw]
        exact heap_alloc_old w.drew _ hp
      obtain ⟨m1, hL1⟩ := m.nilRow hL el size
      have hj1 : nth (L ++ [LE.row el size none 0 0 []]) L.length = some (.row el size none 0 0 []) := by rw [nth_snoc]; simp
      obtain ⟨β', b1, m', href, _⟩ := m1.grow hL1 hj1 hg0 hown' (.inr rfl)
      have hset : ∀ y : LE, setn (L ++ [LE.row el size none 0 0 []]) L.length y = L ++ [y] := fun y => by
        rw [setn_eq, List.set_append_right _ _ (Nat.le_refl _)]; simp
      have hL' := hL1.setOther (nth_lt hj1) href (fun _ _ e => by cases e)
      rw [hset] at m' href hL'
      exact ⟨_, _, _, β', _, w', hrun, k2 (by omega) _ _ (row_cap hown'), m', hL', fun j hj => href j (refOk_snoc _ hj), fun j hj => b1 j (refOk_snoc _ hj)⟩
theorem own_form {el size k cap : Nat} {g : Addr} {xs : List Value} (hown : w.ownsRow 0 el size (.slice (some g) k cap) k xs) :
    ∃ cur : Array Value, g = ⟨g.block, 0, none⟩ ∧ w.heap[g.block]? = some (.cells cur el (0, 0)) ∧ k ≤ cap ∧ cap ≤ maxLen ∧ cur.size = cap * size ∧ xs.length = k * size ∧ cur.toList.take (k * size) = xs := by
  rcases hown.2 with ⟨q1, _⟩ | ⟨g1, c1, cur, q1, _, q3, q4, q5, q6, q7⟩
  · cases q1
  · injection q1 with e1 _ e3
    injection e1 with e1
    subst e1; subst e3
    exact ⟨cur, rfl, q3, q4, q5, q6, hown.1, q7⟩
/-- an append where there is room -/
theorem run_room {t ty el : TypeId} {i : TypeInfo} {size : Nat} (ht : P.underlying t = some (.slice el)) (hi : P.info? el = some i) (hsize : i.size = size)
    {g b : Addr} {k cap q c : Nat} {xs vs : List Value} (hown : w.ownsRow 0 el size (.slice (some g) k cap) k xs) (hl : vs.length = q * size) (hc : ∀ j v, vs[j]? = some v → w.cell? (b.add j) = some v) (h1 : ∀ u ∈ vs, u.oneCell' = true) (hr : k + q ≤ cap) :
    ∃ w', (Builtin.append_ #[t, t] ty #[.slice (some g) k cap, .slice (some b) q c]).run P w = .ok (.slice (some g) (k + q) cap) w' ∧ w'.ownsRow 0 el size (.slice (some g) (k + q) cap) (k + q) (xs ++ vs) ∧ w.grownBy w' (some g.block) := by
  obtain ⟨cur, eg, hcur, hkc, hcm, hcs, hxl, hxs⟩ := own_form hown
  have hfit : k * size + vs.length ≤ cur.size := by rw [hl, hcs, ← Nat.add_mul]; exact Nat.mul_le_mul_right _ hr
  have hrun := run_append_room (P := P) w t ty el i ht hi g.block k cap cur hcur b q c vs (by rw [hsize]; exact hl) hc h1 hr (by rw [hsize]; exact hfit)
  rw [← eg, hsize] at hrun
  have hlen : (xs ++ vs).length = (k + q) * size := by rw [List.length_append, hxl, hl, Nat.add_mul]
  refine ⟨_, hrun, ⟨hlen, .inr ⟨g.block, cap, _, by rw [← eg], Nat.zero_le _, setRow_heap w g.block cur _ el _ hcur, hr, hcm, ?_, ?_⟩⟩, ⟨rfl, rfl, rfl, by simp [World.setRow], fun j _ hj => setRow_other w g.block j _ (fun e => hj (by rw [e]))⟩⟩
  · have : cur.toList.length = cur.size := Array.length_toList
    simp only [List.size_toArray, List.length_append, List.length_take, List.length_drop]
    omega
  · show List.take _ (cur.toList.take (k * size) ++ vs ++ _) = _
    rw [hxs, ← hlen]
    exact List.take_left
/-- an append of one element where there is no room -/
theorem run_push {t ty el : TypeId} {i : TypeInfo} {z : Value} {size bytes : Nat} (ht : P.underlying t = some (.slice el)) (hi : P.info? el = some i) (hz : i.zero = some z) (hsize : i.size = size) (hby : i.bytes = bytes) (hzs : z.cells.size = size)
    {g b : Addr} {k cap c : Nat} {xs vs : List Value} (hown : w.ownsRow 0 el size (.slice (some g) k cap) k xs) (hl : vs.length = 1 * size) (hc : ∀ j v, vs[j]? = some v → w.cell? (b.add j) = some v) (hr : cap < k + 1) (h63 : k + 1 ≤ maxLen) (hb : k * bytes ≤ 140737488355328) (hb1 : bytes ≤ 140737488355328) :
    ∃ cap' w', (Builtin.append_ #[t, t] ty #[.slice (some g) k cap, .slice (some b) 1 c]).run P w = .ok (.slice (some ⟨w.heap.size, 0, none⟩) (k + 1) cap') w' ∧ w'.ownsRow 0 el size (.slice (some ⟨w.heap.size, 0, none⟩) (k + 1) cap') (k + 1) (xs ++ vs) ∧ w.grownBy w' (some g.block) := by
  obtain ⟨cur, eg, hcur, hkc, hcm, hcs, hxl, hxs⟩ := own_form hown
  have hck : cap = k := by omega
  have holds : ∀ j u, xs[j]? = some u → w.cell? (g.add j) = some u := fun j u hu => by rw [eg] at hown ⊢; exact hown.cells rfl j u hu
  have hrun := run_append_grow (P := P) w t ty el i z ht hi hz g k cap xs (by rw [hsize]; exact hxl) holds b 1 c vs (by rw [hsize]; exact hl) hc hr (by simp only [maxLen] at h63; omega) (by rw [hby, hck]; exact growslice_fits_succ hb (by omega))
  have hlen : (xs ++ vs).length = (k + 1) * size := by rw [List.length_append, hxl, hl, Nat.add_mul]
  have hge := grownCap_ge w (k + 1) cap el
  refine ⟨_, _, hrun, ⟨hlen, .inr ⟨w.heap.size, _, _, rfl, Nat.zero_le _, heap_alloc_new w.drew _, hge, grownCap_le_maxLen w (k + 1) cap el h63, ?_, ?_⟩⟩, ⟨rfl, rfl, rfl, by simp, fun j hj _ => heap_alloc_old w.drew _ hj⟩⟩
  · simp only [Array.size_append, List.size_toArray, size_zeroCells, hzs, hxl, hl, ← Nat.add_mul]
    congr 1
    omega
  · simp only [Array.toList_append, List.append_assoc]
    rw [← List.append_assoc, ← hlen]
    exact List.take_left
theorem src_some {size : Nat} {B : Option Addr} {q : Nat} {vs : List Value} (h0 : 0 < q) (hs : SrcW w size B q vs) : vs.length = q * size ∧ ∃ b, B = some b ∧ ∀ j v, vs[j]? = some v → w.cell? (b.add j) = some v := by
  obtain ⟨hl, hs2⟩ := hs
  rcases hs2 with ⟨_, q0⟩ | hs2
  · omega
  · exact ⟨hl, hs2⟩
theorem evappK_sound {t ty el : TypeId} {i : TypeInfo} {z : Value} {size bytes : Nat} (ht : P.underlying t = some (.slice el)) (hi : P.info? el = some i) (hz : i.zero = some z) (hsize : i.size = size) (hby : i.bytes = bytes) (hzs : z.cells.size = size) (hsz : 0 < size)
    {A B : Option Addr} {k cap q c : Nat} {S : List Value → Prop} {K : SV → List LE → Prop} (m : Mem h0 w0 β L h w) (hL : OkL L) (hS : ∀ vs, S vs → SrcW w size B q vs) (hp : EvAppendK el size bytes A k cap q S L K) :
    ∃ A' cap' n' β' L' w', (Builtin.append_ #[t, t] ty #[.slice A k cap, .slice B q c]).run P w = .ok (.slice A' n' cap') w' ∧ K (.v (.slice A' n' cap')) L' ∧ Mem h0 w0 β' L' h w' ∧ OkL L' ∧ (∀ j, refOk L j → refOk L' j) ∧ (∀ j, refOk L j → β' j = β j) := by
  cases hp with
  | old j xs vs hj hs h1 hm hb kk => exact evapp_sound ht hi hz hsize hby hzs hsz m hL hS (.old j xs vs hj hs h1 hm hb kk)
  | fresh vs hA hn hcp hs h1 hm hb kk => exact evapp_sound ht hi hz hsize hby hzs hsz m hL hS (.fresh vs hA hn hcp hs h1 hm hb kk)
  | keep j g xs vs hA hj hs h1 h0 hm hb k1 k2 => exact evapp_sound ht hi hz hsize hby hzs hsz m hL hS (.keep j g xs vs hA hj hs h1 h0 hm hb k1 k2)
  | room j g xs vs hA hj hs h1 hr kk =>
    subst hA
    have hown := (m.see.see j _ hj).1
    obtain ⟨hl, hs2⟩ := hS vs hs
    rcases hs2 with ⟨rfl, rfl⟩ | ⟨b, rfl, hcell⟩
    · obtain rfl : vs = [] := List.eq_nil_of_length_eq_zero (by simpa using hl)
      have hrun := run_append_nilsrc (P := P) (ty := ty) ht hi hown c
      obtain ⟨β', b1, m', href, _⟩ := m.grow hL hj (w' := w) (World.grownBy.refl w _) (by simpa using hown) (.inl rfl)
      exact ⟨_, _, _, β', _, w, hrun, kk, by simpa using m', hL.setOther (nth_lt hj) (by simpa using href) (fun _ _ e => by cases e), by simpa using href, b1⟩
    · obtain ⟨w', hrun, hown', hg⟩ := run_room (P := P) (ty := ty) (c := c) ht hi hsize hown hl hcell h1 hr
      obtain ⟨β', b1, m', href, _⟩ := m.grow hL hj hg hown' (.inl rfl)
      exact ⟨_, _, _, β', _, w', hrun, kk, m', hL.setOther (nth_lt hj) href (fun _ _ e => by cases e), href, b1⟩
  | push j xs vs hj hs h1 hm1 hm hb hb1 kk =>
    subst hm1
    have hown := (m.see.see j _ hj).1
    cases A with
    | none =>
      have hk : k = 0 := by
        rcases hown.2 with ⟨_, q⟩ | ⟨_, _, _, q, _⟩
        · exact q
        · cases q
      obtain ⟨v', w', hrun, hown', hg, hnil, hat⟩ := run_append_w (ty := ty) (c := c) ht hi hz hsize hby hzs hsz hown (hS vs hs) h1 hm (by rw [hk]; omega)
      obtain ⟨A', cap', rfl⟩ := row_form hown'
      obtain ⟨β', b1, m', href, _⟩ := m.grow hL hj hg hown' hat
      refine ⟨A', cap', _, β', _, w', hrun, kk A' cap' ⟨fun e => ?_, row_cap hown'⟩, m', hL.setOther (nth_lt hj) href (fun _ _ e => by cases e), href, b1⟩
      rw [row_nil hown'] at hnil
      have := (hnil.1 e).2
      omega
    | some g =>
      obtain ⟨hl, b, rfl, hcell⟩ := src_some (Nat.succ_pos 0) (hS vs hs)
      by_cases hr : k + 1 ≤ cap
      · obtain ⟨w', hrun, hown', hg⟩ := run_room (P := P) (ty := ty) (c := c) ht hi hsize hown hl hcell h1 hr
        obtain ⟨β', b1, m', href, _⟩ := m.grow hL hj hg hown' (.inl rfl)
        exact ⟨_, _, _, β', _, w', hrun, kk _ _ ⟨by simp, row_cap hown'⟩, m', hL.setOther (nth_lt hj) href (fun _ _ e => by cases e), href, b1⟩
      · obtain ⟨cap', w', hrun, hown', hg⟩ := run_push (P := P) (ty := ty) (c := c) ht hi hz hsize hby hzs hown hl hcell (by omega) hm hb hb1
        obtain ⟨β', b1, m', href, _⟩ := m.grow hL hj hg hown' (.inr rfl)
        exact ⟨_, _, _, β', _, w', hrun, kk _ _ ⟨by simp, row_cap hown'⟩, m', hL.setOther (nth_lt hj) href (fun _ _ e => by cases e), href, b1⟩
end
end Go.Sx
