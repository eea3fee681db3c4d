/- From a triple to a row: opening arguments, and the end. Conditions: none. -/
import Derived.Test.YthibgmkobcbhhaaGreatD1
import Derived.ProofKit
import Derived.SizedLaws
import Derived.Lib.SmallJoins
namespace Go.Sx
open Go.RowKit Go.WideShapes Go.ChangeShapes
section
variable {H : Type} {enc : TypeId × Value → H} {P : Program}
theorem below_of {W W' : World} {h' : Hp} (x : Ext (Hp.of W) W h' W') (hle : (Hp.of W).le h') : Below W.heap.size W W' := by
  refine ⟨x.os, x.tape, x.output, x.size, fun k hk => ?_⟩
  have h1 : W.heap[k]? = some W.heap[k] := Array.getElem?_eq_getElem hk
  rw [h1]
  exact x.hw k _ (hle k _ h1)
theorem hw_of (W : World) : HW (Hp.of W) W := fun _ _ e => e
theorem of_cell {W : World} {a : Addr} {v : Value} (hc : W.cell? a = some v) : (Hp.of W).cell? a = some v := hc

def rowsOk (P : Program) (ts : List TypeId) : Bool := ts.all fun t => P.readableRec t && decide (t < P.types.size)
theorem trodAll_stays (hl : laidOutB P = true) {W W' : World} {sp : Nat → Bool} : ∀ (ts : List TypeId) (vs : List Value) (ds : List (DataW H)) (ps : List MemPlace), rowsOk P ts = true → DataW.TrodAll enc P W 0 (fun _ => true) true ts vs ds ps →
    (∀ p ∈ ps, W.sameAt W' p) → (∀ p ∈ ps, sp p.block = true) → DataW.TrodAll enc P W' 0 sp true ts vs ds ps
  | [], [], [], _, _, h, _, _ => h
  | t :: ts, v :: vs, d :: ds, ps, hr, h, hs, hp => by
    obtain ⟨p, q, h1, h2, rfl⟩ := h
    simp only [rowsOk, List.all_cons, Bool.and_eq_true, decide_eq_true_eq] at hr
    exact ⟨p, q, WideElems.Trod_stays hl hr.1.1 hr.1.2 h1 (fun x hx => hs x (by simp [hx])) (fun x hx => hp x (by simp [hx])),
      trodAll_stays hl ts vs ds q (by simpa [rowsOk] using hr.2) h2 (fun x hx => hs x (by simp [hx])) (fun x hx => hp x (by simp [hx])), rfl⟩
  | [], _ :: _, _, _, _, h, _, _ => h.elim
  | [], [], _ :: _, _, _, h, _, _ => h.elim
  | _ :: _, [], _, _, _, h, _, _ => h.elim
  | _ :: _, _ :: _, [], _, _, h, _, _ => h.elim

/-- What a law answers that says true and leaves all that was there. -/
theorem post_true {f : Func} {s : ChangeSpec} {tb : TypeId} {apart fresh handsOn again : Bool} {W W' : World} {args : Array Value} {ds gs : List (DataW H)} {before : List MemPlace}
    (hl : laidOutB P = true) (hr : rowsOk P f.params.toList = true) (hvs : s.vars = []) (hrt : f.resultTypes = #[tb]) (htb : P.underlying tb = some .bool)
    (hW : DataW.Whole enc P f.params.toList s.vars apart W args.toList ds gs before)
    (hs : (s.fn H (ds ++ gs)).results = [.lit (.bool true)]) (hsa : (s.fn H (ds ++ gs)).args = ds) (hsv : (s.fn H (ds ++ gs)).vars = []) (hb : Below W.heap.size W W') :
    s.post enc P f apart fresh handsOn again W args (.bool true) W' := by
  have hlt : ∀ p ∈ before, p.block < W.heap.size := fun p hp => hW.lt p hp
  obtain ⟨p, q, h1, h2, h3, hz, hn⟩ := id hW
  have hq : q = [] ∧ gs = [] := by
    rw [hvs] at h2
    cases gs with
    | nil => exact ⟨h2, rfl⟩
    | cons g gs => exact h2.elim
  obtain ⟨rfl, rfl⟩ := hq
  rw [List.append_nil] at h3
  subst h3
  have hA : ∀ sp : Nat → Bool, (∀ x ∈ before, sp x.block = true) → DataW.TrodAll enc P W' 0 sp true f.params.toList args.toList (s.fn H (ds ++ [])).args before := fun sp hsp => by
    rw [hsa]
    exact trodAll_stays hl _ _ _ _ hr h1 (fun x hx => hb.same (hlt x hx)) hsp
  have hV : ∀ sp : Nat → Bool, DataW.TrodVars enc P W' sp s.vars (s.fn H (ds ++ [])).vars [] := fun sp => by
    rw [hsv, hvs]; rfl
  have hR : ∀ (b : Nat) (sp : Nat → Bool) (hd : Bool), DataW.TrodAll enc P W' b sp hd f.resultTypes.toList ((Value.bool true).resultList f.resultTypes.size) (s.fn H (ds ++ [])).results [] := fun b sp hd => by
    rw [hs, hrt]
    exact trodAll_mk1 (shut_bool htb true)
  have hok : ∀ (j : Nat) (t : TypeId) (r : Value), f.resultTypes[j]? = some t → ((Value.bool true).resultList f.resultTypes.size)[j]? = some r → Value.okWide P W' .any 0 t r := ok_one hrt rfl (okWide_bool_mk htb true)
  have hold : ∀ x ∈ before, (fun b => decide (b < W.heap.size)) x.block = true := fun x hx => by simpa using hlt x hx
  refine ⟨ds, [], before, [], before, [], hW, hR _ _ _, hA _ hold, hV _, World.keptBut_mono (fun x hx => ⟨hx, ?_⟩) (hb.frame (· ∈ before)), fun _ => ⟨hok, _, _, ([] ++ before) ++ [], ⟨[] ++ before, [], trodAll_append (hA _ (fun _ _ => rfl)) (hR _ _ _), hV _, rfl, ?_, ?_⟩, ?_⟩⟩
  · exact .inr (by simpa using hx)
  · intro b off hp
    have hin : MemPlace.cell b off ∈ before := by simpa using hp
    rw [hb.frozen (hlt _ hin)]
    exact hz b off hin
  · intro ha
    simpa using hn ha
  · intro x hx _
    simpa using hx

/-- A row's contract out of a triple. -/
theorem calls_true {f : FuncId} {fn : Func} {s : ChangeSpec} {tb : TypeId} {apart fresh handsOn again : Bool} {W : World} {args : Array Value} {ds gs : List (DataW H)} {before : List MemPlace}
    (hl : laidOutB P = true) (hr : rowsOk P fn.params.toList = true) (hvs : s.vars = []) (hrt : fn.resultTypes = #[tb]) (htb : P.underlying tb = some .bool)
    (hW : DataW.Whole enc P fn.params.toList s.vars apart W args.toList ds gs before)
    (hs : (s.fn H (ds ++ gs)).results = [.lit (.bool true)]) (hsa : (s.fn H (ds ++ gs)).args = ds) (hsv : (s.fn H (ds ++ gs)).vars = [])
    (hF : Fn P f args (Hp.of W) fun r h' => r = .bool true ∧ (Hp.of W).le h') :
    Calls P f args W fun e W' => ∃ v, e = .returned v ∧ s.post enc P fn apart fresh handsOn again W args v W' := by
  refine (hF.run W (hw_of W)).mono ?_
  rintro e W' ⟨v, h', rfl, ⟨rfl, hle⟩, hx⟩
  exact ⟨_, rfl, post_true hl hr hvs hrt htb hW hs hsa hsv (below_of hx hle)⟩

theorem choose_list {α : Type} (R : Nat → α → Prop) : ∀ n, (∀ i, i < n → ∃ a, R i a) → ∃ l : List α, l.length = n ∧ ∀ i a, l[i]? = some a → R i a
  | 0, _ => ⟨[], rfl, fun i a h => by simp at h⟩
  | n + 1, h => by
    obtain ⟨l, h1, h2⟩ := choose_list R n fun i hi => h i (by omega)
    obtain ⟨a, ha⟩ := h n (by omega)
    refine ⟨l ++ [a], by simp [h1], fun i b hb => ?_⟩
    rw [List.getElem?_append] at hb
    split at hb
    · exact h2 i b hb
    · have : i = n := by
        have := (List.getElem?_eq_some_iff.1 hb).1
        simp at this; omega
      subst this
      rw [h1] at hb
      simp at hb
      rw [← hb]; exact ha
/-- fields that are numbers -/
def allInts (P : Program) (fs : Array Field) : Bool := fs.toList.all fun f => tyInt P f.type
/-- A slice of structs of numbers, opened. -/
theorem open_rows {α : Type} {cells : α → List Value} {W : World} {spare : Nat → Bool} {held : Bool} {t e size fuel : Nat} {fs : Array Field} {v : Value} {x : DataW H × List MemPlace} (mk : (Nat → Int) → α) (hmk : ∀ z j u, (cells (mk z))[j]? = some u → u = iv (z j)) (hlen : ∀ a, (cells a).length = size)
    (ht : P.underlying t = some (.slice e)) (he : P.underlying e = some (.struct fs)) (hone : Deep.oneCellFields P fs = true) (hC : P.cellsOf e = size) (hfs : fs.size = size) (hints : allInts P fs = true)
    (h : DataW.trod enc P W 0 spare held fuel t [v] = some x) :
    ∃ (A : Option Addr) (n cap : Nat) (l : List α), v = .slice A n cap ∧ Tab (Hp.of W) size A n (l.map cells) ∧ n ≤ cap ∧ ∃ el sp, (x.1 = .slice el sp ∧ n ≤ el.length) ∨ (x.1 = .nil ∧ n = 0) := by
  rcases Deep.open_slice ht h with ⟨h0, h1⟩ | ⟨a, len, cap, m, n, D, Pl, hcs, hb, hl, hm, hmm, hx, hi⟩
  · injection h0 with h0
    exact ⟨none, 0, 0, [], h0, Tab.nil _ _ _, Nat.le_refl _, [], [], .inr ⟨by rw [h1], rfl⟩⟩
  · injection hcs with hcs
    have hlm : len ≤ m := by rw [hmm]; split <;> omega
    have key : ∀ i, i < len → ∃ z : Nat → Int, ∀ j, j < size → W.cell? (a.add (i * size + j)) = some (iv (z j)) := fun i hil => by
      obtain ⟨cs', hc, ht'⟩ := hi i (by omega)
      rw [hC] at hc
      obtain ⟨ys, n', hn', hy, hcl', hyl, hf⟩ := DataW.trod_struct he ht'
      obtain ⟨_, hcl, hat⟩ := World.cells?_some hc
      have each : ∀ j, j < size → ∃ z : Int, W.cell? (a.add (i * size + j)) = some (iv z) := fun j hj => by
        have hjf : j < fs.size := by omega
        obtain ⟨ho, hk⟩ := Deep.hone_of hone j fs[j] (Array.getElem?_eq_getElem hjf)
        have h1 := hf j fs[j] (Array.getElem?_eq_getElem hjf)
        rw [ho, hk] at h1
        have hone' : (cs'.drop j).take 1 = [cs'[j]'(by omega)] := by
          rw [List.drop_eq_getElem_cons (by omega)]
          rfl
        rw [hone'] at h1
        have hty : P.underlying fs[j].type = some (.int .i64) := tyInt_und (List.all_eq_true.1 hints _ (by simp))
        obtain ⟨y, hy'⟩ : ∃ y, ys[j]? = some y := ⟨_, List.getElem?_eq_getElem (by omega)⟩
        rw [hy'] at h1
        obtain ⟨z, hz, _⟩ := DataW.trod_int hty h1
        injection hz with hz
        refine ⟨z, ?_⟩
        have := hat j (by omega)
        rw [add_add] at this
        rw [this, List.getElem?_eq_getElem (by omega), hz]; rfl
      refine ⟨fun j => if hj : j < size then (each j hj).choose else 0, fun j hj => ?_⟩
      simp only [dif_pos hj]
      exact (each j hj).choose_spec
    obtain ⟨l, hll, hlr⟩ := choose_list (fun i (b : α) => ∀ j u, (cells b)[j]? = some u → W.cell? (a.add (i * size + j)) = some u) len fun i hil => by
      obtain ⟨z, hz⟩ := key i hil
      refine ⟨mk z, fun j u hu => ?_⟩
      have hj := (List.getElem?_eq_some_iff.1 hu).1
      rw [hlen] at hj
      rw [hmk z j u hu]; exact hz j hj
    refine ⟨some a, len, cap, l, hcs, ⟨by simpa using hll, fun r hr => ?_, fun _ => ⟨a, rfl⟩, fun g hg i r hr j u hu => ?_⟩, hl, (List.range len).map D, _, .inl ⟨by rw [hx], by simp⟩⟩
    · obtain ⟨b, _, rfl⟩ := List.mem_map.1 hr
      exact hlen b
    · injection hg with hg
      subst hg
      rw [List.getElem?_map, Option.map_eq_some_iff] at hr
      obtain ⟨b, hb', rfl⟩ := hr
      exact of_cell (hlr i b hb' j u hu)
end
end Go.Sx
