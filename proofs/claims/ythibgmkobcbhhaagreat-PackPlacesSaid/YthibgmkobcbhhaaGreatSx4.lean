/- The operations that make or change memory, and calls: what the rules say is what the model does. Conditions: none. -/
import Derived.Test.YthibgmkobcbhhaaGreatSx3
import Derived.Maps.AppendAt
namespace Go.Sx
open Go.RowKit
def LE.live : LE → Bool
  | .own .. | .map .. => true
  | .row _ _ A _ _ _ => A.isSome
  | _ => false

structure Mem (h0 : Hp) (w0 : World) (β : Nat → Nat) (L : List LE) (h : Hp) (w : World) : Prop where
  see : See β L h w
  hole : ∀ i l, nth L i = some l → l.live = true → h (β i) = none
  inj : ∀ i j l l', nth L i = some l → nth L j = some l' → l.live = true → l'.live = true → β i = β j → i = j
  lt : ∀ i l, nth L i = some l → l.live = true → β i < w.heap.size
  lo : ∀ i l, nth L i = some l → l.live = true → h0 (β i) ≠ none ∨ w0.heap.size ≤ β i
  os : w.os = w0.os
  tape : w.tape = w0.tape
  output : w.output = w0.output
  size : w0.heap.size ≤ w.heap.size
  frame : ∀ j, j < w0.heap.size → h0 j = none → w.heap[j]? = w0.heap[j]?
  fresh : ∀ j, h j ≠ none → h0 j ≠ none ∨ w0.heap.size ≤ j

theorem HW.lt {h : Hp} {w : World} (x : HW h w) {j : Nat} (hj : h j ≠ none) : j < w.heap.size := by
  cases e : h j with
  | none => exact absurd e hj
  | some o =>
    have := x j o e
    exact (Array.getElem?_eq_some_iff.1 this).1
theorem HW.out {h : Hp} {w : World} (x : HW h w) {j : Nat} (hj : w.heap.size ≤ j) : h j = none := by
  cases e : h j with
  | none => rfl
  | some o => have := x.lt (j := j) (by rw [e]; simp); omega

theorem nth_snoc {α : Type} (l : List α) (x : α) (i : Nat) : nth (l ++ [x]) i = if i < l.length then nth l i else if i = l.length then some x else none := by
  rw [nth_eq, nth_eq, List.getElem?_append]
  split
  · rfl
  · split
    · rename_i h; subst h; simp
    · rename_i h1 h2
      rw [List.getElem?_eq_none (by simp; omega)]
theorem nth_setn {α : Type} (l : List α) (x : α) (i j : Nat) (hi : i < l.length) : nth (setn l i x) j = if j = i then some x else nth l j := by
  rw [nth_eq, setn_eq, nth_eq, List.getElem?_set]
  by_cases h : i = j
  · subst h; simp [hi]
  · rw [if_neg h, if_neg (Ne.symm h)]
theorem len_setn {α : Type} (l : List α) (x : α) (i : Nat) : (setn l i x).length = l.length := by rw [setn_eq]; simp

section
variable {β β' : Nat → Nat} {L L' : List LE} {h h' : Hp} {w w' : World}

theorem c1_agree {x : SV} (hx : x.ok1 L) (hb : ∀ i, refOk L i → β' i = β i) : x.c1 β' = x.c1 β := by
  cases x <;> simp only [SV.ok1] at hx <;> first | rfl | simp only [SV.c1, hb _ hx]
theorem c_agree {x : SV} (hx : x.ok L) (hb : ∀ i, refOk L i → β' i = β i) : x.c β' = x.c β := by
  cases x with
  | a xs =>
    show Value.agg _ = Value.agg _
    congr 2
    exact List.map_congr_left fun y hy => c1_agree (hx y hy) hb
  | v x => rfl
  | p i off => exact c1_agree (x := .p i off) hx hb
  | s i off l c => exact c1_agree (x := .s i off l c) hx hb
  | m i => exact c1_agree (x := .m i) hx hb
theorem cs_agree {cs : List SV} (hx : ∀ x ∈ cs, x.ok1 L) (hb : ∀ i, refOk L i → β' i = β i) : cs.map (SV.c1 β') = cs.map (SV.c1 β) :=
  List.map_congr_left fun y hy => c1_agree (hx y hy) hb

theorem refOk_lt {i : Nat} (hi : refOk L i) : i < L.length := by
  obtain ⟨l, hl, _⟩ := hi
  exact nth_lt hl
theorem refOk_snoc {i : Nat} (x : LE) (hi : refOk L i) : refOk (L ++ [x]) i := by
  obtain ⟨l, hl, hr⟩ := hi
  exact ⟨l, by rw [nth_snoc, if_pos (nth_lt hl)]; exact hl, hr⟩

theorem Rel.agree {n : Nat} {e : Env} {a : Act} (r : Rel n β L e a) (hb : ∀ i, refOk L i → β' i = β i) (hm : ∀ i, refOk L i → refOk L' i) : Rel n β' L' e a :=
  ⟨r.defers, r.size, fun t => by rw [r.env t, c_agree (r.ok t) hb], fun t => ok_mono (r.ok t) hm⟩
theorem Rel.put {n : Nat} {e : Env} {a : Act} (r : Rel n β L e a) {d : Nat} (hd : d < n) {x : SV} (hx : x.ok L) : Rel n β L (upd e d x) (a.put (some d) (x.c β)) := by
  refine ⟨r.defers, by simp [Act.put, r.size], fun t => ?_, fun t => ?_⟩
  · have hs := r.size
    by_cases ht : t = d
    · subst ht
      simp [Act.put, upd, Array.getD_eq_getD_getElem?, hs, hd]
    · have he := r.env t
      rw [Array.getD_eq_getD_getElem?] at he
      have : Nat.beq t d = false := by
        cases hh : Nat.beq t d with
        | true => exact absurd (Nat.eq_of_beq_eq_true hh) ht
        | false => rfl
      simp only [Act.put, upd, this, cond_false, Array.getD_eq_getD_getElem?, Array.getElem?_setIfInBounds]
      rw [if_neg (Ne.symm ht)]
      exact he
  · unfold upd
    cases hb : Nat.beq t d with
    | true => exact hx
    | false => exact r.ok t

/-- A new block of the call's own. -/
theorem Mem.push {h0 : Hp} {w0 : World} (m : Mem h0 w0 β L h w) (hL : OkL L) {cells : List SV} (hc : ∀ x ∈ cells, x.ok1 L) (ty : Nat) :
    ∃ β', (∀ i, i < L.length → β' i = β i) ∧ β' L.length = w.heap.size ∧
      Mem h0 w0 β' (L ++ [.own cells ty]) h { w with heap := w.heap.push (.cells (cells.map (SV.c1 β)).toArray ty) } := by
  refine ⟨fun i => if i = L.length then w.heap.size else β i, fun i hi => by simp; omega, by simp, ?_⟩
  have hb : ∀ i, refOk L i → (if i = L.length then w.heap.size else β i) = β i := fun i hi => by
    have := refOk_lt hi
    rw [if_neg (by omega)]
  have hold : ∀ i l, nth (L ++ [LE.own cells ty]) i = some l → (i < L.length ∧ nth L i = some l) ∨ (i = L.length ∧ l = .own cells ty) := by
    intro i l hl
    rw [nth_snoc] at hl
    split at hl
    · exact .inl ⟨by assumption, hl⟩
    · split at hl
      · injection hl with hl; exact .inr ⟨by assumption, hl.symm⟩
      · cases hl
  have hpush : ∀ j : Nat, j < w.heap.size → (w.heap.push (.cells (cells.map (SV.c1 β)).toArray ty))[j]? = w.heap[j]? := fun j hj => by
    rw [Array.getElem?_push, if_neg (by omega)]
  refine ⟨⟨fun j o ho => ?_, fun i l hl => ?_⟩, fun i l hl hv => ?_, fun i j l l' hl hl' hv hv' he => ?_, fun i l hl hv => ?_, fun i l hl hv => ?_, m.os, m.tape, m.output, ?_, fun j hj hn => ?_, m.fresh⟩
  · show (w.heap.push _)[j]? = some o
    rw [hpush j (m.see.hw.lt (by rw [ho]; simp))]
    exact m.see.hw j o ho
  · rcases hold i l hl with ⟨hi, hl⟩ | ⟨rfl, rfl⟩
    · have hs := m.see.see i l hl
      have hβ : (if i = L.length then w.heap.size else β i) = β i := by rw [if_neg (by omega)]
      cases l with
      | own cs ty' =>
        simp only [LE.sees] at hs ⊢
        rw [hβ, hpush _ (m.lt i _ hl rfl), cs_agree (hL i cs ty' hl) hb]
        exact hs
      | pub b => simp only [LE.sees] at hs ⊢; rw [hβ]; exact hs
      | row ety size A n cap xs =>
        simp only [LE.sees] at hs ⊢
        obtain ⟨⟨h1, h2⟩, h3⟩ := hs
        refine ⟨⟨h1, ?_⟩, fun g hg => by rw [hβ]; exact h3 g hg⟩
        rcases h2 with h2 | ⟨g, c, cur, e1, e2, e3, e4⟩
        · exact .inl h2
        · exact .inr ⟨g, c, cur, e1, e2, by rw [hpush _ (Array.getElem?_eq_some_iff.1 e3).1]; exact e3, e4⟩
      | map f k =>
        simp only [LE.sees] at hs ⊢
        rw [hβ, hpush _ (m.lt i _ hl rfl)]
        exact hs
      | gone => trivial
    · simp only [LE.sees, if_true]
      rw [cs_agree hc hb, Array.getElem?_push, if_pos rfl]
  · rcases hold i l hl with ⟨hi, hl⟩ | ⟨rfl, rfl⟩
    · simp only [show (i = L.length) = False from by simp; omega, if_false]; exact m.hole i l hl hv
    · simp only [if_true]; exact m.see.hw.out (Nat.le_refl _)
  · rcases hold i l hl with ⟨hi, hl⟩ | ⟨rfl, rfl⟩ <;> rcases hold j l' hl' with ⟨hj, hl'⟩ | ⟨rfl, rfl⟩
    · simp only [show (i = L.length) = False from by simp; omega, show (j = L.length) = False from by simp; omega, if_false] at he
      exact m.inj i j l l' hl hl' hv hv' he
    · simp only [show (i = L.length) = False from by simp; omega, if_false, if_true] at he
      have := m.lt i l hl hv; omega
    · simp only [show (j = L.length) = False from by simp; omega, if_false, if_true] at he
      have := m.lt j l' hl' hv'; omega
    · rfl
  · show _ < (w.heap.push _).size
    rw [Array.size_push]
    rcases hold i l hl with ⟨hi, hl⟩ | ⟨rfl, rfl⟩
    · simp only [show (i = L.length) = False from by simp; omega, if_false]; have := m.lt i l hl hv; omega
    · simp
  · rcases hold i l hl with ⟨hi, hl⟩ | ⟨rfl, rfl⟩
    · simp only [show (i = L.length) = False from by simp; omega, if_false]; exact m.lo i l hl hv
    · simp only [if_true]; exact .inr m.size
  · show _ ≤ (w.heap.push _).size
    rw [Array.size_push]; have := m.size; omega
  · show (w.heap.push _)[j]? = _
    have := m.size
    rw [hpush j (by omega)]
    exact m.frame j hj hn
theorem OkL.push (hL : OkL L) {cells : List SV} (hc : ∀ x ∈ cells, x.ok1 L) (ty : Nat) : OkL (L ++ [.own cells ty]) := by
  intro i cs t hi x hx
  rw [nth_snoc] at hi
  split at hi
  · exact c1_ok (hL i cs t hi x hx) fun i => refOk_snoc _
  · split at hi
    · injection hi with hi; injection hi with h1 h2; subst h1; exact c1_ok (hc x hx) fun i => refOk_snoc _
    · cases hi
theorem refOk_new (cells : List SV) (ty : Nat) : refOk (L ++ [.own cells ty]) L.length := ⟨.own cells ty, by rw [nth_snoc]; simp, rfl⟩

/-- the world with one block written anew -/
def wr (w : World) (b ty : Nat) (cs : List Value) : World := { w with heap := w.heap.setIfInBounds b (.cells cs.toArray ty (0, 0)) }
theorem wr_heap (w : World) (b ty : Nat) (cs : List Value) (j : Nat) : (wr w b ty cs).heap[j]? = if b = j then (if b < w.heap.size then some (.cells cs.toArray ty (0, 0)) else none) else w.heap[j]? := by
  simp only [wr, Array.getElem?_setIfInBounds]
theorem wr_ne (w : World) {b ty j : Nat} (cs : List Value) (hj : j ≠ b) : (wr w b ty cs).heap[j]? = w.heap[j]? := by rw [wr_heap, if_neg (Ne.symm hj)]
theorem wr_same (w : World) {b ty : Nat} (cs : List Value) (hb : b < w.heap.size) : (wr w b ty cs).heap[b]? = some (.cells cs.toArray ty (0, 0)) := by rw [wr_heap, if_pos rfl, if_pos hb]
theorem wr_size (w : World) (b ty : Nat) (cs : List Value) : (wr w b ty cs).heap.size = w.heap.size := by simp [wr]

theorem over_cons {α : Type} : ∀ (off : Nat) (l : List α) (y : α) (ys r : List α), over l off (y :: ys) = some r → off < l.length ∧ over (l.set off y) (off + 1) ys = some r
  | 0, [], y, ys, r, h => by simp [over] at h
  | 0, x :: l, y, ys, r, h => by
    simp only [over] at h
    refine ⟨by simp, ?_⟩
    simp only [List.set_cons_zero, over]
    exact h
  | off + 1, [], y, ys, r, h => by simp [over] at h
  | off + 1, x :: l, y, ys, r, h => by
    simp only [over] at h
    split at h
    · rename_i r' hr
      injection h with h; subst h
      obtain ⟨a, b⟩ := over_cons off l y ys r' hr
      refine ⟨by simp; omega, ?_⟩
      simp only [List.set_cons_succ, over, b]
    · cases h
theorem over_nil {α : Type} : ∀ (off : Nat) (l r : List α), over l off [] = some r → r = l
  | 0, l, r, h => by simpa [over] using h.symm
  | off + 1, [], r, h => by simp [over] at h
  | off + 1, x :: l, r, h => by
    simp only [over] at h
    split at h
    · rename_i r' hr
      injection h with h; subst h
      rw [over_nil off l r' hr]
    · cases h
theorem setCell_wr {w : World} {b off ty : Nat} {cs : List Value} (hb : w.heap[b]? = some (.cells cs.toArray ty (0, 0))) (v : Value) : w.setCell ⟨b, off, none⟩ v = wr w b ty (cs.set off v) := by
  have hlt : b < w.heap.size := (Array.getElem?_eq_some_iff.1 hb).1
  have hg : w.heap[b] = .cells cs.toArray ty (0, 0) := by
    have := Array.getElem?_eq_getElem hlt
    rw [hb] at this; injection this with this; exact this.symm
  simp only [World.setCell, wr]
  congr 1
  apply Array.ext_getElem?
  intro j
  rw [Array.getElem?_modify, Array.getElem?_setIfInBounds]
  by_cases hj : b = j
  · subst hj
    rw [if_pos rfl, if_pos rfl, if_pos hlt, hb]
    simp
  · rw [if_neg hj, if_neg hj]
theorem run_storeCells {P : Program} {b ty : Nat} : ∀ (vs : List Value) (w : World) (cs cs' : List Value) (off i : Nat), w.heap[b]? = some (.cells cs.toArray ty (0, 0)) → (∀ u ∈ vs, u.oneCell' = true) →
    over cs (off + i) vs = some cs' → (storeCells ⟨b, off, none⟩ vs i).run P w = .ok () (if vs = [] then w else wr w b ty cs')
  | [], w, cs, cs', off, i, _, _, _ => by simp [storeCells]
  | v :: vs, w, cs, cs', off, i, hb, h1, ho => by
    obtain ⟨hlt, ho'⟩ := over_cons _ _ _ _ _ ho
    have hbs : b < w.heap.size := (Array.getElem?_eq_some_iff.1 hb).1
    have hc : w.cell? ((Addr.mk b off none).add i) = some cs[off + i] := by
      rw [add_lit]
      simp [World.cell?, hb, hlt]
    have hf : w.frozen? ((Addr.mk b off none).add i) = false := by
      rw [add_lit]
      simp [World.frozen?, hb]
    simp only [storeCells, Sem.run_bind, run_store P w _ v _ (h1 v (by simp)), hc, hf, Bool.false_eq_true, if_false, Result.andThen_ok]
    rw [add_lit, setCell_wr hb, run_storeCells vs _ (cs.set (off + i) v) cs' off (i + 1) (wr_same w _ hbs) (fun u hu => h1 u (by simp [hu])) (by rw [← Nat.add_assoc]; exact ho')]
    rw [if_neg (show ¬ (v :: vs = []) from by simp)]
    split
    · rename_i hv
      subst hv
      rw [over_nil _ _ _ ho']
    · congr 1
      simp [wr]
theorem run_storeVar {P : Program} {t : TypeId} (ht : tyOk P t = true) {b off ty : Nat} {v : Value} {w : World} {cs cs' : List Value} (hl : v.cells.toList.length = tySize P t) (hb : w.heap[b]? = some (.cells cs.toArray ty (0, 0)))
    (h1 : ∀ u ∈ v.cells.toList, u.oneCell' = true) (ho : over cs off v.cells.toList = some cs') : (storeVar t ⟨b, off, none⟩ v).run P w = .ok () (wr w b ty cs') := by
  obtain ⟨i, hi⟩ := tyOk_info ht
  have hs : v.cells.size = i.size := by rw [← tySize_of hi, ← hl]; simp
  have hbs : b < w.heap.size := (Array.getElem?_eq_some_iff.1 hb).1
  simp only [storeVar, Sem.run_bind, run_sizeOf hi, Result.andThen_ok, hs, ne_eq, not_true_eq_false, if_false]
  rw [run_storeCells v.cells.toList w cs cs' off 0 hb h1 ho]
  split
  · rename_i hv
    rw [hv] at ho
    rw [over_nil _ _ _ ho]
    congr 1
    unfold wr
    have : w.heap.setIfInBounds b (.cells cs.toArray ty (0, 0)) = w.heap := by
      apply Array.ext_getElem?
      intro j
      rw [Array.getElem?_setIfInBounds]
      by_cases hj : b = j
      · subst hj; rw [if_pos rfl, if_pos hbs, hb]
      · rw [if_neg hj]
    rw [this]
  · rfl

theorem cellsOf_c {x : SV} {cs : List SV} (hx : cellsOf x = some cs) : (x.c β).cells.toList = cs.map (SV.c1 β) := by
  cases x with
  | a xs => injection hx with hx; subst hx; simp [SV.c, Value.cells]
  | v y =>
    cases y with
    | agg as =>
      injection hx with hx; subst hx
      show as.toList = _
      rw [c1_vs]
    | tuple as => cases hx
    | _ => injection hx with hx; subst hx; rfl
  | _ => injection hx with hx; subst hx; rfl
theorem ones_c {cs : List SV} (hx : ones cs = true) : ∀ u ∈ cs.map (SV.c1 β), u.oneCell' = true := by
  induction cs with
  | nil => simp
  | cons x l ih =>
    simp only [ones, Bool.and_eq_true] at hx
    intro u hu
    simp only [List.map_cons, List.mem_cons] at hu
    rcases hu with rfl | hu
    · cases x with
      | v y => cases y <;> first | rfl | (exact absurd hx.1 (by simp [one]))
      | a xs => exact absurd hx.1 (by simp [one])
      | _ => rfl
    · exact ih hx.2 u hu
theorem over_map {α γ : Type} (f : α → γ) : ∀ (off : Nat) (l ys r : List α), over l off ys = some r → over (l.map f) off (ys.map f) = some (r.map f)
  | 0, l, [], r, h => by simp [over] at h; subst h; simp [over]
  | 0, [], y :: ys, r, h => by simp [over] at h
  | 0, x :: l, y :: ys, r, h => by
    simp only [over] at h
    split at h
    · rename_i r' hr
      injection h with h; subst h
      simp [over, over_map f 0 l ys r' hr]
    · cases h
  | off + 1, [], ys, r, h => by simp [over] at h
  | off + 1, x :: l, ys, r, h => by
    simp only [over] at h
    split at h
    · rename_i r' hr
      injection h with h; subst h
      simp [over, over_map f off l ys r' hr]
    · cases h
theorem over_mem {α : Type} {off : Nat} {l ys r : List α} (ho : over l off ys = some r) {x : α} (hx : x ∈ r) : x ∈ l ∨ x ∈ ys := by
  obtain ⟨_, _, h3⟩ := over_len _ _ _ _ ho
  obtain ⟨j, hj⟩ := List.mem_iff_getElem?.1 hx
  rw [h3 j] at hj
  split at hj
  · exact .inr (List.mem_of_getElem? hj)
  · exact .inl (List.mem_of_getElem? hj)

/-- One live entry's block is written anew. -/
theorem Mem.write {h0 : Hp} {w0 : World} (m : Mem h0 w0 β L h w) {i : Nat} {l l' : LE} (hi : nth L i = some l) (hv : l.live = true) (hv' : l'.live = true) (hr : l.isRow = l'.isRow) {ty : Nat} {cs : List Value}
    (hs : l'.sees β i (wr w (β i) ty cs)) : Mem h0 w0 β (setn L i l') h (wr w (β i) ty cs) ∧ (∀ j, refOk L j → refOk (setn L i l') j) := by
  have hlt := nth_lt hi
  have hbl := m.lt i l hi hv
  have hold : ∀ j k, nth (setn L i l') j = some k → (j = i ∧ k = l') ∨ (j ≠ i ∧ nth L j = some k) := by
    intro j k hk
    rw [nth_setn _ _ _ _ hlt] at hk
    split at hk
    · injection hk with hk; exact .inl ⟨by assumption, hk.symm⟩
    · exact .inr ⟨by assumption, hk⟩
  have hne : ∀ j k, j ≠ i → nth L j = some k → k.live = true → β j ≠ β i := fun j k hj hk hkv e => hj (m.inj j i k l hk hi hkv hv e)
  refine ⟨⟨⟨fun j o ho => ?_, fun j k hk => ?_⟩, fun j k hk hkv => ?_, fun j j' k k' hk hk' hkv hkv' he => ?_, fun j k hk hkv => ?_, fun j k hk hkv => ?_, m.os, m.tape, m.output, by rw [wr_size]; exact m.size, fun j hj hn => ?_, m.fresh⟩, fun j hj => ?_⟩
  · have hne' : j ≠ β i := fun e => by rw [e, m.hole i l hi hv] at ho; cases ho
    rw [wr_ne w cs hne']; exact m.see.hw j o ho
  · rcases hold j k hk with ⟨rfl, rfl⟩ | ⟨hj, hk⟩
    · exact hs
    · have hse := m.see.see j k hk
      cases k with
      | own cs' ty' => simp only [LE.sees] at hse ⊢; rw [wr_ne w cs (hne j _ hj hk rfl)]; exact hse
      | pub b => exact hse
      | row ety size A n cap xs =>
        simp only [LE.sees] at hse ⊢
        obtain ⟨⟨h1, h2⟩, h3⟩ := hse
        refine ⟨⟨h1, ?_⟩, h3⟩
        rcases h2 with h2 | ⟨g, c, cur, e1, e2, e3, e4⟩
        · exact .inl h2
        · injection e1 with e1 e1' e1''
          have hg := h3 _ e1
          subst e1
          exact .inr ⟨g, c, cur, by rw [e1''], e2, by rw [wr_ne w cs (by have := hne j _ hj hk rfl; simp at hg; rw [hg]; exact this)]; exact e3, e4⟩
      | map f k' => simp only [LE.sees] at hse ⊢; rw [wr_ne w cs (hne j _ hj hk rfl)]; exact hse
      | gone => trivial
  · rcases hold j k hk with ⟨rfl, rfl⟩ | ⟨hj, hk⟩
    · exact m.hole j l hi hv
    · exact m.hole j k hk hkv
  · rcases hold j k hk with ⟨q1, q2⟩ | ⟨q1, q2⟩ <;> rcases hold j' k' hk' with ⟨q3, q4⟩ | ⟨q3, q4⟩
    · rw [q1, q3]
    · rw [q1] at he ⊢; exact m.inj _ _ _ _ hi q4 hv hkv' he
    · rw [q3] at he ⊢; exact m.inj _ _ _ _ q2 hi hkv hv he
    · exact m.inj _ _ _ _ q2 q4 hkv hkv' he
  · rw [wr_size]
    rcases hold j k hk with ⟨rfl, rfl⟩ | ⟨hj, hk⟩
    · exact hbl
    · exact m.lt j k hk hkv
  · rcases hold j k hk with ⟨rfl, rfl⟩ | ⟨hj, hk⟩
    · exact m.lo _ l hi hv
    · exact m.lo j k hk hkv
  · by_cases e : j = β i
    · subst e
      rcases m.lo i l hi hv with e | e
      · exact absurd hn e
      · omega
    · rw [wr_ne w cs e]; exact m.frame j hj hn
  · obtain ⟨k, hk, hkr⟩ := hj
    by_cases e : j = i
    · subst e
      rw [hi] at hk; injection hk with hk; subst hk
      exact ⟨l', by rw [nth_setn _ _ _ _ hlt, if_pos rfl], by rw [← hr]; exact hkr⟩
    · exact ⟨k, by rw [nth_setn _ _ _ _ hlt, if_neg e]; exact hk, hkr⟩

theorem OkL.setOwn (hL : OkL L) {i ty : Nat} {cs : List SV} (hi : i < L.length) (hm : ∀ j, refOk L j → refOk (setn L i (.own cs ty)) j) (hc : ∀ x ∈ cs, x.ok1 L) : OkL (setn L i (.own cs ty)) := by
  intro j cs' t hj x hx
  rw [nth_setn _ _ _ _ hi] at hj
  split at hj
  · injection hj with hj; injection hj with h1 h2; subst h1; exact c1_ok (hc x hx) hm
  · exact c1_ok (hL j cs' t hj x hx) hm
end
end Go.Sx
