/- The rules of the operations that make or change memory: what they say is what the model does. Conditions: none. -/
import Derived.Test.YthibgmkobcbhhaaGreatSx5
namespace Go.Sx
open Go.RowKit
section
variable {P : Program} {h0 : Hp} {w0 : World} {n : Nat} {β : Nat → Nat} {L : List LE} {h : Hp} {e : Env} {a : Act} {w : World}

def Out (h0 : Hp) (w0 : World) (n : Nat) (C : (Nat → Nat) → Prop) (K : KT) (next : Act → World → Prop) : Prop :=
  ∀ β e L h a w, C β → Mem h0 w0 β L h w → Rel n β L e a → OkL L → K e L h → next a w
def Any : (Nat → Nat) → Prop := fun _ => True

theorem put_none (a : Act) (v : Value) : a.put none v = a := rfl
theorem putS_sound {K : KT} {next : Act → World → Prop} {C : (Nat → Nat) → Prop} (ho : Out h0 w0 n C K next) (hC : C β) (m : Mem h0 w0 β L h w) (r : Rel n β L e a) (hL : OkL L) {d : Option Nat} {x : SV} (hx : x.ok L) (hp : putS n d x e L h K) : next (a.put d (x.c β)) w := by
  cases d with
  | none => exact ho _ _ _ _ _ _ hC m r hL hp
  | some d =>
    simp only [putS] at hp
    cases hb : Nat.blt d n with
    | false => rw [hb] at hp; exact hp.elim
    | true =>
      rw [hb] at hp
      have hd : d < n := Nat.lt_of_succ_le (Nat.le_of_ble_eq_true hb)
      exact ho _ _ _ _ _ _ hC m (r.put hd hx) hL hp

theorem wp_value {o : Oper} {next : Act → World → Prop} {Q : Exit → Act → World → Prop} {v : Value} {w' : World} (hr : (execOp a.eval o).run P w = .ok (.value v) w') (hk : next (a.put o.dst v) w') : o.wp P a w next Q := by
  unfold Oper.wp; rw [hr]; exact hk
theorem wp_skip' {o : Oper} {next : Act → World → Prop} {Q : Exit → Act → World → Prop} {w' : World} (hr : (execOp a.eval o).run P w = .ok .skip w') (hk : next (a.put o.dst undef) w') : o.wp P a w next Q := by
  unfold Oper.wp; rw [hr]; exact hk

theorem raw1_c (s : See β L h w) {x : SV} {v : Value} (hx : raw1 L x = some v) : x.c1 β = v ∧ (∀ xs, x ≠ .a xs) := by
  cases x with
  | v y => injection hx with hx; exact ⟨hx, fun _ e => by cases e⟩
  | a xs => cases hx
  | p i off =>
    simp only [raw1] at hx
    split at hx
    · rename_i b hi
      injection hx with hx; subst hx
      have := s.see i _ hi
      simp only [LE.sees] at this
      subst this
      exact ⟨rfl, fun _ e => by cases e⟩
    · cases hx
  | s i off l c =>
    simp only [raw1] at hx
    split at hx
    · rename_i b hi
      injection hx with hx; subst hx
      have := s.see i _ hi
      simp only [LE.sees] at this
      subst this
      exact ⟨rfl, fun _ e => by cases e⟩
    · cases hx
  | m i =>
    simp only [raw1] at hx
    split at hx
    · rename_i b hi
      injection hx with hx; subst hx
      have := s.see i _ hi
      simp only [LE.sees] at this
      subst this
      exact ⟨rfl, fun _ e => by cases e⟩
    · cases hx
theorem raws_c (s : See β L h w) : ∀ (cs : List SV) (vs : List Value), raws L cs = some vs → cs.map (SV.c1 β) = vs
  | [], vs, hx => by cases hx; rfl
  | x :: cs, vs, hx => by
    simp only [raws] at hx
    split at hx
    · rename_i v r hv hr
      injection hx with hx; subst hx
      rw [List.map_cons, (raw1_c s hv).1, raws_c s cs r hr]
    · cases hx
theorem raw_c (s : See β L h w) {x : SV} {v : Value} (hx : raw L x = some v) : x.c β = v := by
  cases x with
  | a xs =>
    simp only [raw] at hx
    split at hx
    · rename_i r hr
      injection hx with hx; subst hx
      show Value.agg _ = _
      rw [raws_c s xs r hr]
    · cases hx
  | v y => simp only [raw] at hx; exact (raw1_c s hx).1
  | p i off => simp only [raw] at hx; exact (raw1_c s (x := .p i off) hx).1
  | s i off l c => simp only [raw] at hx; exact (raw1_c s (x := .s i off l c) hx).1
  | m i => simp only [raw] at hx; exact (raw1_c s (x := .m i) hx).1
theorem rawArgs_c (s : See β L h w) : ∀ (cs : List SV) (vs : List Value), rawArgs L cs = some vs → cs.map (SV.c β) = vs
  | [], vs, hx => by cases hx; rfl
  | x :: cs, vs, hx => by
    simp only [rawArgs] at hx
    split at hx
    · rename_i v r hv hr
      injection hx with hx; subst hx
      rw [List.map_cons, raw_c s hv, rawArgs_c s cs r hr]
    · cases hx

/-- An entry gives its block to the partial heap. -/
theorem Mem.give (m : Mem h0 w0 β L h w) {i : Nat} {l l' : LE} (hi : nth L i = some l) (hv : l.live = true) (hv' : l'.live = false) (hr : l'.isRow = false) (hs' : l'.sees β i w) {o : Obj} (ho : w.heap[β i]? = some o) :
    Mem h0 w0 β (setn L i l') (h.put (β i) o) w ∧ (∀ j, refOk L j → refOk (setn L i l') j) := by
  have hlt := nth_lt hi
  have hold : ∀ j k, nth (setn L i l') j = some k → (j = i ∧ k = l') ∨ (j ≠ i ∧ nth L j = some k) := by
    intro j k hk
    rw [nth_setn _ _ _ _ hlt] at hk
    split at hk
    · injection hk with hk; exact .inl ⟨by assumption, hk.symm⟩
    · exact .inr ⟨by assumption, hk⟩
  have hlive : ∀ j k, nth (setn L i l') j = some k → k.live = true → j ≠ i ∧ nth L j = some k := by
    intro j k hk hkv
    rcases hold j k hk with ⟨_, rfl⟩ | hh
    · rw [hv'] at hkv; cases hkv
    · exact hh
  refine ⟨⟨⟨fun j o' hj => ?_, fun j k hk => ?_⟩, fun j k hk hkv => ?_, fun j j' k k' hk hk' hkv hkv' he => ?_, fun j k hk hkv => ?_, fun j k hk hkv => ?_, m.os, m.tape, m.output, m.size, m.frame, fun j hj => ?_⟩, fun j hj => ?_⟩
  · by_cases e : j = β i
    · subst e; rw [Hp.put_same] at hj; injection hj with hj; subst hj; exact ho
    · rw [Hp.put_ne _ _ e] at hj; exact m.see.hw j o' hj
  · rcases hold j k hk with ⟨q1, q2⟩ | ⟨_, hk⟩
    · rw [q1, q2]; exact hs'
    · exact m.see.see j k hk
  · obtain ⟨q, hk⟩ := hlive j k hk hkv
    rw [Hp.put_ne _ _ (fun e => q (m.inj j i k l hk hi hkv hv e))]
    exact m.hole j k hk hkv
  · exact m.inj j j' k k' (hlive j k hk hkv).2 (hlive j' k' hk' hkv').2 hkv hkv' he
  · exact m.lt j k (hlive j k hk hkv).2 hkv
  · exact m.lo j k (hlive j k hk hkv).2 hkv
  · by_cases e : j = β i
    · subst e; exact m.lo i l hi hv
    · rw [Hp.put_ne _ _ e] at hj; exact m.fresh j hj
  · obtain ⟨k, hk, hkr⟩ := hj
    by_cases e : j = i
    · exact ⟨l', by rw [nth_setn _ _ _ _ hlt, if_pos e], hr⟩
    · exact ⟨k, by rw [nth_setn _ _ _ _ hlt, if_neg e]; exact hk, hkr⟩

theorem OkL.setOther (hL : OkL L) {i : Nat} {l' : LE} (hi : i < L.length) (hm : ∀ j, refOk L j → refOk (setn L i l') j) (hn : ∀ cs ty, l' ≠ .own cs ty) : OkL (setn L i l') := by
  intro j cs' t hj x hx
  rw [nth_setn _ _ _ _ hi] at hj
  split at hj
  · injection hj with hj; exact absurd hj (hn _ _)
  · exact c1_ok (hL j cs' t hj x hx) hm

theorem pubs_sound (xs : List SV) {K : List LE → Hp → Prop} : ∀ (fu : Nat) (L : List LE) (h : Hp), Mem h0 w0 β L h w → OkL L → pubs fu xs K L h →
    ∃ L' h', K L' h' ∧ Mem h0 w0 β L' h' w ∧ OkL L' ∧ (∀ i, refOk L i → refOk L' i) ∧ L'.length = L.length
  | 0, _, _, _, _, hp => hp.elim
  | fu + 1, L, h, m, hL, hp => by
    simp only [pubs] at hp
    split at hp
    · exact ⟨L, h, hp, m, hL, fun _ => id, rfl⟩
    · rename_i i hneed
      split at hp
      · exact hp.elim
      rename_i i _
      split at hp
      · rename_i cs ty hi
        split at hp
        · rename_i vs hvs
          obtain ⟨k⟩ := hp
          have hb := m.hole i _ hi rfl
          have hcs := raws_c m.see cs vs hvs
          have hobj := m.see.see i _ hi
          simp only [LE.sees, hcs] at hobj
          obtain ⟨m', href⟩ := m.give (l' := .pub (β i)) hi rfl rfl rfl rfl hobj
          obtain ⟨L', h', h1, h2, h3, h4, h5⟩ := pubs_sound xs fu _ _ m' (hL.setOther (nth_lt hi) href (fun _ _ e => by cases e)) (by have := k (β i) hb; rwa [forceL_eq] at this)
          exact ⟨L', h', h1, h2, h3, fun j hj => h4 j (href j hj), by rw [h5, len_setn]⟩
        · exact hp.elim
      · exact hp.elim

theorem shift_sound {K : List LE → Hp → Prop} (hp : Shift K L h) : ∀ β, Mem h0 w0 β L h w → OkL L →
    ∃ β' L' h', K L' h' ∧ Mem h0 w0 β' L' h' w ∧ OkL L' ∧ (∀ i, refOk L i → refOk L' i) ∧ (∀ i, refOk L i → β' i = β i) := by
  induction hp with
  | done k => exact fun β m hL => ⟨β, _, _, k, m, hL, fun _ => id, fun _ _ => rfl⟩
  | @pub L h i ety size A n cap xs hi k ih =>
    intro β m hL
    have hs := m.see.see i _ hi
    simp only [LE.sees] at hs
    obtain ⟨⟨h1, h2⟩, h3⟩ := hs
    have hlt := nth_lt hi
    rcases h2 with ⟨h2, hn⟩ | ⟨g, c, cur, e1, e2, e3, e4⟩
    · injection h2 with ha hn' hc
      subst ha
      have href : ∀ j, refOk L j → refOk (setn L i .gone) j := fun j ⟨q, hq, hqr⟩ => by
        by_cases e : j = i
        · exact ⟨.gone, by rw [nth_setn _ _ _ _ hlt, if_pos e], rfl⟩
        · exact ⟨q, by rw [nth_setn _ _ _ _ hlt, if_neg e]; exact hq, hqr⟩
      have hold : ∀ j q, nth (setn L i .gone) j = some q → q = .gone ∨ nth L j = some q := by
        intro j q hq
        rw [nth_setn _ _ _ _ hlt] at hq
        split at hq
        · injection hq with hq; exact .inl hq.symm
        · exact .inr hq
      have hlive : ∀ j q, nth (setn L i .gone) j = some q → q.live = true → nth L j = some q := fun j q hq hv => by
        rcases hold j q hq with rfl | hh
        · cases hv
        · exact hh
      have m' : Mem h0 w0 β (setn L i .gone) h w := ⟨⟨m.see.hw, fun j q hq => by
          rcases hold j q hq with rfl | hh
          · trivial
          · exact m.see.see j q hh⟩, fun j q hq hv => m.hole j q (hlive j q hq hv) hv, fun j j' q q' hq hq' hv hv' => m.inj j j' q q' (hlive j q hq hv) (hlive j' q' hq' hv') hv hv', fun j q hq hv => m.lt j q (hlive j q hq hv) hv,
          fun j q hq hv => m.lo j q (hlive j q hq hv) hv, m.os, m.tape, m.output, m.size, m.frame, m.fresh⟩
      obtain ⟨β', L', h', k1, k2, k3, k4, k5⟩ := ih h (Hp.le_refl h) ⟨h1, .inl ⟨rfl, hn, hc⟩⟩ (fun g e => by cases e) β m' (hL.setOther hlt href (fun _ _ e => by cases e))
      exact ⟨β', L', h', k1, k2, k3, fun j hj => k4 j (href j hj), fun j hj => k5 j (href j hj)⟩
    · injection e1 with e1 e1' e1''
      subst e1
      subst e1''
      have hg := h3 _ rfl
      simp only at hg
      have hhole := m.hole i _ hi rfl
      rw [← hg] at hhole
      obtain ⟨m', href⟩ := m.give (l' := .gone) hi rfl rfl rfl trivial (by rw [← hg]; exact e3)
      rw [← hg] at m'
      obtain ⟨β', L', h', k1, k2, k3, k4, k5⟩ := ih (h.put g (.cells cur ety (0, 0))) (Hp.le_put hhole) ⟨h1, .inr ⟨g, cur, rfl, Hp.put_same _ _ _, e4.1, e4.2.1, e4.2.2.1, e4.2.2.2⟩⟩ (fun g' e => by injection e with e; subst e; exact hhole) β m' (hL.setOther hlt href (fun _ _ e => by cases e))
      exact ⟨β', L', h', k1, k2, k3, fun j hj => k4 j (href j hj), fun j hj => k5 j (href j hj)⟩
  | @abs L h ety size A n cap xs hr k ih =>
    intro β m hL
    obtain ⟨h1, h2⟩ := hr
    -- the block's number
    have hblk : ∃ b, (∀ g, A = some g → g.block = b) := by
      cases A with
      | none => exact ⟨0, fun g e => by cases e⟩
      | some g => exact ⟨g.block, fun g' e => by injection e with e; rw [e]⟩
    obtain ⟨b, hb⟩ := hblk
    have hdel : ∀ j, (∀ g, A = some g → j ≠ g.block) → delA h A j = h j := fun j hj => by
      cases A with
      | none => rfl
      | some g => exact Hp.del_ne h (hj g rfl)
    have hdelle : (delA h A).le h := by
      cases A with
      | none => exact Hp.le_refl h
      | some g => exact Hp.del_le h _
    have hsome : ∀ g, A = some g → h g.block ≠ none := fun g e => by
      rcases h2 with ⟨q, _⟩ | ⟨g', cur, q, q2, _⟩
      · rw [q] at e; cases e
      · rw [q] at e; injection e with e; subst e; rw [q2]; simp
    have hold : ∀ i l, nth (L ++ [LE.row ety size A n cap xs]) i = some l → (i < L.length ∧ nth L i = some l) ∨ (i = L.length ∧ l = .row ety size A n cap xs) := by
      intro i l hl
      rw [nth_snoc] at hl
      split at hl
      · exact .inl ⟨by assumption, hl⟩
      · split at hl
        · injection hl with hl; exact .inr ⟨by assumption, hl.symm⟩
        · cases hl
    have hβ : ∀ i, i < L.length → (if i = L.length then b else β i) = β i := fun i hi => by rw [if_neg (by omega)]
    have hβr : ∀ i, refOk L i → (if i = L.length then b else β i) = β i := fun i hi => hβ i (refOk_lt hi)
    have hne : ∀ i l, nth L i = some l → l.live = true → ∀ g, A = some g → β i ≠ g.block := fun i l hl hv g e he => by
      have := m.hole i l hl hv
      rw [he] at this
      exact hsome g e this
    have m' : Mem h0 w0 (fun i => if i = L.length then b else β i) (L ++ [.row ety size A n cap xs]) (delA h A) w := by
      refine ⟨⟨m.see.hw.mono hdelle, fun i l hl => ?_⟩, fun i l hl hv => ?_, fun i j l l' hl hl' hv hv' he => ?_, fun i l hl hv => ?_, fun i l hl hv => ?_, m.os, m.tape, m.output, m.size, m.frame, fun j hj => ?_⟩
      · rcases hold i l hl with ⟨hi, hl⟩ | ⟨rfl, rfl⟩
        · have hs := m.see.see i l hl
          cases l with
          | own cs ty' => simp only [LE.sees] at hs ⊢; rw [hβ i hi, cs_agree (hL i cs ty' hl) hβr]; exact hs
          | pub b' => simp only [LE.sees] at hs ⊢; rw [hβ i hi]; exact hs
          | row => simp only [LE.sees] at hs ⊢; rw [hβ i hi]; exact hs
          | map f k => simp only [LE.sees] at hs ⊢; rw [hβ i hi]; exact hs
          | gone => trivial
        · simp only [LE.sees, if_true]
          refine ⟨⟨h1, ?_⟩, hb⟩
          rcases h2 with ⟨rfl, rfl, rfl⟩ | ⟨g, cur, rfl, q2, q3, q4, q5, q6⟩
          · exact .inl ⟨rfl, rfl⟩
          · exact .inr ⟨g, cap, cur, rfl, Nat.zero_le _, m.see.hw _ _ q2, q3, q4, q5, q6⟩
      · rcases hold i l hl with ⟨hi, hl⟩ | ⟨rfl, rfl⟩
        · rw [hβ i hi, hdel _ (hne i l hl hv)]; exact m.hole i l hl hv
        · simp only [if_true]
          cases A with
          | none => cases hv
          | some g => rw [← hb g rfl]; exact Hp.del_same h _
      · rcases hold i l hl with ⟨hi, q⟩ | ⟨q1, q⟩ <;> rcases hold j l' hl' with ⟨hj, q'⟩ | ⟨q1', q'⟩
        · rw [hβ i hi, hβ j hj] at he; exact m.inj i j l l' q q' hv hv' he
        · rw [hβ i hi, if_pos q1'] at he
          subst q'
          cases A with
          | none => cases hv'
          | some g => exact absurd (he.trans (hb g rfl).symm) (hne i l q hv g rfl)
        · rw [hβ j hj, if_pos q1] at he
          subst q
          cases A with
          | none => cases hv
          | some g => exact absurd (he.symm.trans (hb g rfl).symm) (hne j l' q' hv' g rfl)
        · rw [q1, q1']
      · rcases hold i l hl with ⟨hi, hl⟩ | ⟨rfl, rfl⟩
        · rw [hβ i hi]; exact m.lt i l hl hv
        · simp only [if_true]
          cases A with
          | none => cases hv
          | some g => rw [← hb g rfl]; exact m.see.hw.lt (hsome g rfl)
      · rcases hold i l hl with ⟨hi, hl⟩ | ⟨rfl, rfl⟩
        · rw [hβ i hi]; exact m.lo i l hl hv
        · simp only [if_true]
          cases A with
          | none => cases hv
          | some g => rw [← hb g rfl]; exact m.fresh _ (hsome g rfl)
      · refine m.fresh j fun e => hj ?_
        cases q : delA h A j with
        | none => rfl
        | some o => rw [hdelle j o q] at e; cases e
    have hL' : OkL (L ++ [.row ety size A n cap xs]) := by
      intro i cs t hi x hx
      rcases hold i _ hi with ⟨_, hi⟩ | ⟨_, hi⟩
      · exact c1_ok (hL i cs t hi x hx) fun i => refOk_snoc _
      · cases hi
    obtain ⟨β', L', h', k1, k2, k3, k4, k5⟩ := ih _ m' hL'
    exact ⟨β', L', h', k1, k2, k3, fun j hj => k4 j (refOk_snoc _ hj), fun j hj => by rw [k5 j (refOk_snoc _ hj)]; exact hβr j hj⟩
end
end Go.Sx
