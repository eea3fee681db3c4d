/- Layer 19: a net's functions. Conditions: none. -/
import Derived.Test.YthibgmkobcbhhaaGreatN19A
import Derived.Test.YthibgmkobcbhhaaGreatD1
namespace Go.Sx
open Go.Proofs
set_option maxRecDepth 100000
/-- the arcs that lead to a node, and those that lead from it -/
def ins (arcs : List Arc) (v : Nat) : List Nat := (List.range arcs.length).filter fun i => decide ((arcs[i]?).map Arc.dst = some (v : Int))
def outs (arcs : List Arc) (v : Nat) : List Nat := (List.range arcs.length).filter fun i => decide ((arcs[i]?).map Arc.src = some (v : Int))
def idxRows (l : List Nat) : List (List Value) := l.map fun (i : Nat) => [iv (i : Int)]
def slcRows (N : Nat) (len : Nat → Nat) (I : Nat → Option Addr × Nat) : List (List Value) := (List.range N).map fun v => [.slice (I v).1 (len v) (I v).2]
/-- What of a net's state does not change. -/
structure WebAt (hF : Hp) (b gt gf N : Nat) (arcs : List Arc) (Aa Ai Ao : Option Addr) (ca ci co : Nat) (I O : Nat → Option Addr × Nat) : Prop where
  head : hF b = some (.cells #[.slice Aa arcs.length ca, .slice Ai N ci, .slice Ao N co, .slice (some ⟨gt, 0, none⟩) arcs.length arcs.length, .slice (some ⟨gf, 0, none⟩) N N] 142 (0, 0))
  tab : Tab hF 5 Aa arcs.length (arcs.map Arc.cells)
  into : Tab hF 1 Ai N (slcRows N (fun v => (ins arcs v).length) I)
  out : Tab hF 1 Ao N (slcRows N (fun v => (outs arcs v).length) O)
  inRow : ∀ v, v < N → Tab hF 1 (I v).1 (ins arcs v).length (idxRows (ins arcs v))
  outRow : ∀ v, v < N → Tab hF 1 (O v).1 (outs arcs v).length (idxRows (outs arcs v))
  freeT : hF gt = none
  freeF : hF gf = none
  ne : gt ≠ gf
structure Web (hF : Hp) (b gt gf N : Nat) (arcs : List Arc) : Prop where
  ex : ∃ Aa Ai Ao ca ci co I O, WebAt hF b gt gf N arcs Aa Ai Ao ca ci co I O
theorem Web.mono {hF hG : Hp} {b gt gf N : Nat} {arcs : List Arc} (w : Web hF b gt gf N arcs) (x : hF.le hG) (h1 : hG gt = none) (h2 : hG gf = none) : Web hG b gt gf N arcs := by
  obtain ⟨Aa, Ai, Ao, ca, ci, co, I, O, w⟩ := w.ex
  exact ⟨Aa, Ai, Ao, ca, ci, co, I, O, ⟨x _ _ w.head, w.tab.mono x, w.into.mono x, w.out.mono x, fun v hv => (w.inRow v hv).mono x, fun v hv => (w.outRow v hv).mono x, h1, h2, w.ne⟩⟩
def numCells (l : List Int) : Obj := .cells (l.map iv).toArray 3 (0, 0)
def st (hF : Hp) (gt gf : Nat) (toks fired : List Int) : Hp := (hF.put gt (numCells toks)).put gf (numCells fired)
section
variable {hF h : Hp} {b gt gf N : Nat} {arcs : List Arc} {toks fired : List Int}
theorem Hp.le_st (h1 : hF gt = none) (h2 : hF gf = none) : hF.le (st hF gt gf toks fired) := fun j o e => by
  unfold st
  rw [Hp.put_ne _ _ (fun q => by rw [q, h2] at e; cases e), Hp.put_ne _ _ (fun q => by rw [q, h1] at e; cases e)]
  exact e
theorem st_gt (hne : gt ≠ gf) : st hF gt gf toks fired gt = some (numCells toks) := by
  unfold st; rw [Hp.put_ne _ _ hne, Hp.put_same]
theorem st_gf : st hF gt gf toks fired gf = some (numCells fired) := by
  unfold st; rw [Hp.put_same]
/-- what has grown from a state is a state -/
theorem st_grow {h' : Hp} (hne : gt ≠ gf) (h1 : hF gt = none) (h2 : hF gf = none) (x : (st hF gt gf toks fired).le h') : ∃ hG, h' = st hG gt gf toks fired ∧ hF.le hG ∧ hG gt = none ∧ hG gf = none := by
  refine ⟨(h'.del gt).del gf, ?_, fun j o e => ?_, ?_, Hp.del_same _ _⟩
  · funext j
    unfold st
    by_cases e2 : j = gf
    · subst e2; rw [Hp.put_same]; exact x _ _ st_gf
    · rw [Hp.put_ne _ _ e2]
      by_cases e1 : j = gt
      · subst e1; rw [Hp.put_same]; exact x _ _ (st_gt hne)
      · rw [Hp.put_ne _ _ e1, Hp.del_ne _ e2, Hp.del_ne _ e1]
  · have e2 : j ≠ gf := fun q => by rw [q, h2] at e; cases e
    have e1 : j ≠ gt := fun q => by rw [q, h1] at e; cases e
    rw [Hp.del_ne _ e2, Hp.del_ne _ e1]
    exact x _ _ (Hp.le_st h1 h2 _ _ e)
  · rw [Hp.del_ne _ hne, Hp.del_same]
theorem st_tok (t : List Int) : (st hF gt gf toks fired).put gt (numCells t) = st hF gt gf t fired ∨ gt = gf := by
  by_cases e : gt = gf
  · exact .inr e
  · left
    funext j
    simp only [st, Hp.put]
    by_cases h1 : j = gt
    · subst h1; simp [e]
    · simp [h1]
theorem st_fir (f : List Int) : (st hF gt gf toks fired).put gf (numCells f) = st hF gt gf toks f := by
  unfold st; rw [Hp.put_put]
theorem head_cell {hs : Hp} {cs : List Value} {b ty : Nat} (hb : hs b = some (.cells cs.toArray ty (0, 0))) {j : Nat} {v : Value} (hv : cs[j]? = some v) : hs.cell? ⟨b, j, none⟩ = some v := by
  unfold Hp.cell?
  simp only [hb, Option.isSome_none, Bool.false_eq_true, if_false]
  simpa using hv
end
def ptr (b : Nat) : Value := .pointer (some ⟨b, 0, none⟩)
theorem has29 {hF h : Hp} {b gt gf N : Nat} {arcs : List Arc} (w : Web hF b gt gf N arcs) (x : hF.le h) (v : Int) : Fn Tryz.prog 105 #[ptr b, iv v] h fun r h' => r = .bool (okNode N v) ∧ h' = h := by
  obtain ⟨Aa, Ai, Ao, ca, ci, co, I, O, w⟩ := w.ex
  refine Fn.intro (args := [ptr b, iv v]) mix14 Tryz.func105 rfl (by decide) Tryz.ntmps105 rfl (low105 rfl) rfl ?_
  conv => whnf
  refine br_dec (fun h1 => ?_) (fun h1 => ?_)
  · conv => whnf
    refine .hp _ (Hp.cell_le x (head_cell w.head (j := 1) rfl)) ?_
    conv => whnf
    refine .done ⟨?_, rfl⟩
    simp only [oneVal, okNode, decide_eq_true h1, Bool.true_and]
  · conv => whnf
    refine .done ⟨?_, rfl⟩
    simp only [oneVal, okNode, decide_eq_false h1, Bool.false_and]
theorem needs25 {hF h : Hp} {b gt gf N : Nat} {arcs : List Arc} (w : Web hF b gt gf N arcs) (x : hF.le h) (v : Nat) (hv : v < N) :
    Fn Tryz.prog 98 #[ptr b, iv v] h fun r h' => (∃ A c, r = .slice A (ins arcs v).length c ∧ Tab hF 1 A (ins arcs v).length (idxRows (ins arcs v))) ∧ h' = h := by
  obtain ⟨Aa, Ai, Ao, ca, ci, co, I, O, w⟩ := w.ex
  refine Fn.intro (args := [ptr b, iv v]) mix14 Tryz.func98 rfl (by decide) Tryz.ntmps98 rfl (low98 rfl) rfl ?_
  conv => whnf
  refine .hp _ (Hp.cell_le x (head_cell w.head (j := 1) rfl)) ?_
  obtain ⟨g, hg⟩ := w.into.ad (by omega)
  conv => whnf
  refine .mk g hg (by omega) (by omega) ?_
  conv => whnf
  refine .hp (.slice (I v).1 (ins arcs v).length (I v).2) (by rw [Int.toNat_natCast]; exact (w.into.mono x).one hg (by simp [slcRows, hv]; rfl) rfl) ?_
  conv => whnf
  exact .done ⟨⟨_, _, rfl, w.inRow v hv⟩, rfl⟩
theorem feeds26 {hF h : Hp} {b gt gf N : Nat} {arcs : List Arc} (w : Web hF b gt gf N arcs) (x : hF.le h) (v : Nat) (hv : v < N) :
    Fn Tryz.prog 99 #[ptr b, iv v] h fun r h' => (∃ A c, r = .slice A (outs arcs v).length c ∧ Tab hF 1 A (outs arcs v).length (idxRows (outs arcs v))) ∧ h' = h := by
  obtain ⟨Aa, Ai, Ao, ca, ci, co, I, O, w⟩ := w.ex
  refine Fn.intro (args := [ptr b, iv v]) mix14 Tryz.func99 rfl (by decide) Tryz.ntmps99 rfl (low99 rfl) rfl ?_
  conv => whnf
  refine .hp _ (Hp.cell_le x (head_cell w.head (j := 2) rfl)) ?_
  obtain ⟨g, hg⟩ := w.out.ad (by omega)
  conv => whnf
  refine .mk g hg (by omega) (by omega) ?_
  conv => whnf
  refine .hp (.slice (O v).1 (outs arcs v).length (O v).2) (by rw [Int.toNat_natCast]; exact (w.out.mono x).one hg (by simp [slcRows, hv]; rfl) rfl) ?_
  conv => whnf
  exact .done ⟨⟨_, _, rfl, w.outRow v hv⟩, rfl⟩
theorem ins_lt {arcs : List Arc} {v i : Nat} (h : i ∈ ins arcs v) : i < arcs.length := by
  simp only [ins, List.mem_filter, List.mem_range] at h; exact h.1
theorem outs_lt {arcs : List Arc} {v i : Nat} (h : i ∈ outs arcs v) : i < arcs.length := by
  simp only [outs, List.mem_filter, List.mem_range] at h; exact h.1
theorem num_cell {hs : Hp} {g : Nat} {l : List Int} (hb : hs g = some (numCells l)) {i : Nat} (hi : i < l.length) : hs.cell? ((Addr.mk g 0 none).add (i * 1)) = some (iv l[i]) := by
  rw [add_lit, Nat.zero_add, Nat.mul_one]
  exact head_cell (cs := l.map iv) hb (by simp [hi])
def lacks (arcs : List Arc) (toks : List Int) (i : Nat) : Bool := decide (toks.getD i 0 < ((arcs[i]?).map Arc.take).getD 0)
def shortF (arcs : List Arc) (toks : List Int) : List Nat → Int
  | [] => -1
  | i :: l => if lacks arcs toks i = true then i else shortF arcs toks l
theorem lacks_at {arcs : List Arc} {toks : List Int} {i : Nat} (hi : i < arcs.length) (ht : i < toks.length) : lacks arcs toks i = decide (toks[i] < arcs[i].take) := by
  simp [lacks, hi, List.getD_eq_getElem?_getD, ht]
theorem short30 {hF : Hp} {b gt gf N : Nat} {arcs : List Arc} (w : Web hF b gt gf N arcs) (toks fired : List Int) (htl : toks.length = arcs.length) (hal : arcs.length ≤ 96) (v : Int) :
    Fn Tryz.prog 106 #[ptr b, iv v] (st hF gt gf toks fired) fun r h' => r = iv (if okNode N v = true then shortF arcs toks (ins arcs v.toNat) else -1) ∧ h' = st hF gt gf toks fired := by
  obtain ⟨Aa, Ai, Ao, ca, ci, co, I, O, w0⟩ := w.ex
  have x : hF.le (st hF gt gf toks fired) := Hp.le_st w0.freeT w0.freeF
  have hgt : st hF gt gf toks fired gt = some (numCells toks) := st_gt w0.ne
  generalize hh : st hF gt gf toks fired = h at x hgt
  refine Fn.intro (args := [ptr b, iv v]) mix14 Tryz.func106 rfl (by decide) Tryz.ntmps106 rfl (low106 rfl) rfl ?_
  conv => whnf
  refine .done (.mk _ (has29 w x v) ?_)
  rintro _ h' ⟨rfl, rfl⟩
  cases hv : okNode N v with
  | false =>
    conv => whnf
    exact .done ⟨rfl, rfl⟩
  | true =>
    obtain ⟨v0, v1⟩ := (okNode_iff _ _).1 hv
    obtain ⟨u, rfl⟩ : ∃ u : Nat, v = u := ⟨v.toNat, by omega⟩
    conv => whnf
    refine .done (.mk _ (needs25 w x u (by omega)) ?_)
    rintro _ h ⟨⟨A, c, rfl, hA⟩, rfl⟩
    have hL : ((ins arcs u).length : Int) ≤ 96 := by
      have : (ins arcs u).length ≤ arcs.length := by
        have := List.length_filter_le (fun i => decide ((arcs[i]?).map Arc.dst = some (u : Int))) (List.range arcs.length)
        simpa [ins] using this
      omega
    conv => whnf
    refine .mk Nat [0, 19, 20, 21] (fun j => [.v (ptr b), .v (.slice A (ins arcs u).length c), .v (iv (ins arcs u).length), .v (iv j)]) (fun _ => []) (fun j h' => h' = h ∧ j ≤ (ins arcs u).length ∧ shortF arcs toks ((ins arcs u).drop j) = shortF arcs toks (ins arcs u)) (fun j => (ins arcs u).length - j) 0 (fun _ => rfl) ⟨rfl, Nat.zero_le _, rfl⟩ rfl rfl ?_
    rintro j e h' ⟨rfl, hj, hf⟩
    conv => whnf
    refine br_dec (fun h1 => ?_) (fun h1 => ?_)
    · have hj' : j < (ins arcs u).length := by omega
      have hd : (ins arcs u).drop j = (ins arcs u)[j] :: (ins arcs u).drop (j + 1) := List.drop_eq_getElem_cons hj'
      have hi := ins_lt (List.getElem_mem hj')
      generalize (ins arcs u)[j] = i at hd hi
      obtain ⟨g, hg⟩ := hA.ad (by omega)
      obtain ⟨ga, hga⟩ := w0.tab.ad (by omega)
      conv => whnf
      refine .mk g hg (by omega) (by omega) ?_
      conv => whnf
      refine .hp (iv i) (by rw [Int.toNat_natCast]; exact (hA.mono x).one hg (r := [iv i]) (by have := congrArg (fun l => l[0]?) hd; simp at this; simp [idxRows, this]) rfl) ?_
      conv => whnf
      refine .hp _ (Hp.cell_le x (head_cell w0.head (j := 3) rfl)) ?_
      conv => whnf
      refine .mk _ rfl (by omega) (by omega) ?_
      conv => whnf
      refine .hp (iv (toks[i]'(by omega))) (by rw [Int.toNat_natCast]; exact num_cell hgt (by omega)) ?_
      conv => whnf
      refine .hp _ (Hp.cell_le x (head_cell w0.head (j := 0) rfl)) ?_
      conv => whnf
      refine .mk ga hga (by omega) (by omega) ?_
      conv => whnf
      refine .hp (iv arcs[i].take) (by rw [Int.toNat_natCast, add_add]; exact (w0.tab.mono x).cell ga hga i _ (map_get hi) 3 _ rfl) ?_
      have hlk := lacks_at (toks := toks) hi (by omega)
      conv => whnf
      refine br_dec (fun h2 => ?_) (fun h2 => ?_)
      · conv => whnf
        refine .done ⟨?_, rfl⟩
        rw [if_pos rfl, Int.toNat_natCast, ← hf, hd, shortF, if_pos (by rw [hlk]; exact decide_eq_true h2)]
        rfl
      · conv => whnf
        refine .ok (by omega) (by omega) ?_
        conv => whnf
        refine ⟨j + 1, rfl, rfl, ⟨rfl, hj', ?_⟩, by omega⟩
        rw [← hf, hd, shortF, if_neg (by rw [hlk]; simpa using h2)]
    · conv => whnf
      refine .done ⟨?_, rfl⟩
      rw [if_pos rfl, Int.toNat_natCast, ← hf, List.drop_eq_nil_of_le (by omega)]
      rfl
theorem shortF_neg {arcs : List Arc} {toks : List Int} : ∀ (l : List Nat), shortF arcs toks l < 0 ↔ ∀ i ∈ l, lacks arcs toks i = false
  | [] => by simp [shortF]
  | i :: l => by
    simp only [shortF]
    cases h : lacks arcs toks i
    · simp [h, shortF_neg l]
    · simp [h]
def mayB (N : Nat) (arcs : List Arc) (toks : List Int) (v : Int) : Bool := okNode N v && decide (shortF arcs toks (ins arcs v.toNat) < 0)
theorem may24 {hF : Hp} {b gt gf N : Nat} {arcs : List Arc} (w : Web hF b gt gf N arcs) (toks fired : List Int) (htl : toks.length = arcs.length) (hal : arcs.length ≤ 96) (v : Int) :
    Fn Tryz.prog 97 #[ptr b, iv v] (st hF gt gf toks fired) fun r h' => r = .bool (mayB N arcs toks v) ∧ h' = st hF gt gf toks fired := by
  obtain ⟨Aa, Ai, Ao, ca, ci, co, I, O, w0⟩ := w.ex
  have x : hF.le (st hF gt gf toks fired) := Hp.le_st w0.freeT w0.freeF
  refine Fn.intro (args := [ptr b, iv v]) mix14 Tryz.func97 rfl (by decide) Tryz.ntmps97 rfl (low97 rfl) rfl ?_
  conv => whnf
  refine .done (.mk _ (has29 w x v) ?_)
  rintro _ h' ⟨rfl, rfl⟩
  cases hv : okNode N v with
  | false =>
    conv => whnf
    refine .done ⟨?_, rfl⟩
    simp [oneVal, mayB, hv]
  | true =>
    conv => whnf
    refine .done (.mk _ (short30 w toks fired htl hal v) ?_)
    rintro _ h' ⟨rfl, rfl⟩
    conv => whnf
    refine .done ⟨?_, rfl⟩
    simp [oneVal, mayB, hv]
def tokOf (fired : List Int) (a : Arc) : Int := a.start + a.give * fired.getD a.src.toNat 0 - a.take * fired.getD a.dst.toNat 0
def toksOf (arcs : List Arc) (fired : List Int) : List Int := arcs.map (tokOf fired)
/-- on the way from one state to the next -/
def tokMask (arcs : List Arc) (fired : List Int) (p q : Nat → Bool) : List Int := arcs.zipIdx.map fun x => tokOf fired x.1 - (if p x.2 = true then x.1.take else 0) + (if q x.2 = true then x.1.give else 0)
theorem tokMask_len (arcs : List Arc) (fired : List Int) (p q : Nat → Bool) : (tokMask arcs fired p q).length = arcs.length := by simp [tokMask]
theorem toksOf_len (arcs : List Arc) (fired : List Int) : (toksOf arcs fired).length = arcs.length := by simp [toksOf]
theorem tokMask_at {arcs : List Arc} {fired : List Int} {p q : Nat → Bool} {i : Nat} (hi : i < arcs.length) : (tokMask arcs fired p q)[i]'(by rw [tokMask_len]; exact hi) = tokOf fired arcs[i] - (if p i = true then arcs[i].take else 0) + (if q i = true then arcs[i].give else 0) := by
  simp [tokMask]
theorem tokMask_zero (arcs : List Arc) (fired : List Int) {p q : Nat → Bool} (hp : ∀ i, p i = false) (hq : ∀ i, q i = false) : tokMask arcs fired p q = toksOf arcs fired := by
  apply List.ext_getElem
  · simp [tokMask, toksOf]
  · intro i h1 h2
    rw [tokMask_at (by simpa [tokMask] using h1)]
    simp [toksOf, hp, hq]
theorem tokMask_sub {arcs : List Arc} {fired : List Int} {p p' q : Nat → Bool} {i : Nat} (hi : i < arcs.length) (h0 : p i = false) (h1 : p' i = true) (h2 : ∀ j, j ≠ i → p' j = p j) :
    (tokMask arcs fired p q).set i ((tokMask arcs fired p q)[i]'(by rw [tokMask_len]; exact hi) - arcs[i].take) = tokMask arcs fired p' q := by
  apply List.ext_getElem
  · simp [tokMask]
  · intro j h3 h4
    have hj : j < arcs.length := by simpa [tokMask] using h4
    rw [List.getElem_set, tokMask_at hj]
    split
    · rename_i e
      subst e
      rw [tokMask_at hi, tokMask_at hi, h0, h1]
      simp
      omega
    · rename_i e
      rw [tokMask_at hj, h2 j (Ne.symm e)]
theorem tokMask_add {arcs : List Arc} {fired : List Int} {p q q' : Nat → Bool} {i : Nat} (hi : i < arcs.length) (h0 : q i = false) (h1 : q' i = true) (h2 : ∀ j, j ≠ i → q' j = q j) :
    (tokMask arcs fired p q).set i ((tokMask arcs fired p q)[i]'(by rw [tokMask_len]; exact hi) + arcs[i].give) = tokMask arcs fired p q' := by
  apply List.ext_getElem
  · simp [tokMask]
  · intro j h3 h4
    have hj : j < arcs.length := by simpa [tokMask] using h4
    rw [List.getElem_set, tokMask_at hj]
    split
    · rename_i e
      subst e
      rw [tokMask_at hi, tokMask_at hi, h0, h1]
      simp
    · rename_i e
      rw [tokMask_at hj, h2 j (Ne.symm e)]
theorem tokMask_ext {arcs : List Arc} {fired : List Int} {p q p' q' : Nat → Bool} (hp : ∀ i, p i = p' i) (hq : ∀ i, q i = q' i) : tokMask arcs fired p q = tokMask arcs fired p' q' := by
  rw [funext hp, funext hq]

def sound (N : Int) (arcs : List Arc) : Prop := chk N arcs = 0
def bump (fired : List Int) (v : Nat) : List Int := fired.set v (fired.getD v 0 + 1)
theorem bump_at (fired : List Int) (v u : Nat) (hv : v < fired.length) : (bump fired v).getD u 0 = fired.getD u 0 + if u = v then 1 else 0 := by
  simp only [bump, List.getD_eq_getElem?_getD, List.getElem?_set]
  by_cases e : v = u
  · subst e; simp [hv]
  · rw [if_neg e, if_neg (Ne.symm e)]; simp
theorem tokOf_bump {N : Nat} {fired : List Int} {a : Arc} {v : Nat} (ha : okArc N a = 0) (hl : fired.length = N) (hv : v < N) :
    tokOf (bump fired v) a = tokOf fired a - (if a.dst = v then a.take else 0) + (if a.src = v then a.give else 0) := by
  have hb := okArc_zero ha
  unfold tokOf
  rw [bump_at _ _ _ (by omega), bump_at _ _ _ (by omega)]
  have e1 : (a.src.toNat = v) ↔ (a.src = v) := by omega
  have e2 : (a.dst.toNat = v) ↔ (a.dst = v) := by omega
  simp only [e1, e2, Int.mul_add]
  by_cases h1 : a.src = v <;> by_cases h2 : a.dst = v <;> simp only [h1, h2, if_true, if_false, Int.mul_one, Int.mul_zero] <;> omega
theorem mem_ins {arcs : List Arc} {v i : Nat} (hi : i < arcs.length) : i ∈ ins arcs v ↔ arcs[i].dst = v := by
  simp [ins, hi]
theorem mem_outs {arcs : List Arc} {v i : Nat} (hi : i < arcs.length) : i ∈ outs arcs v ↔ arcs[i].src = v := by
  simp [outs, hi]
theorem nodup_ins (arcs : List Arc) (v : Nat) : (ins arcs v).Nodup := List.Pairwise.filter _ List.nodup_range
theorem nodup_outs (arcs : List Arc) (v : Nat) : (outs arcs v).Nodup := List.Pairwise.filter _ List.nodup_range
theorem tokMask_step {N : Nat} {arcs : List Arc} {fired : List Int} {v : Nat} (hs : chk N arcs = 0) (hl : fired.length = N) (hv : v < N) :
    tokMask arcs fired (fun i => decide (i ∈ ins arcs v)) (fun i => decide (i ∈ outs arcs v)) = toksOf arcs (bump fired v) := by
  apply List.ext_getElem
  · simp [tokMask, toksOf]
  · intro i h1 h2
    have hi : i < arcs.length := by simpa [toksOf] using h2
    rw [tokMask_at hi]
    simp only [toksOf, List.getElem_map]
    rw [tokOf_bump ((chk_zero hs).2.2.2 _ (List.getElem_mem hi)) hl hv]
    simp only [decide_eq_true_eq, mem_ins hi, mem_outs hi]
/-- may a node fire? -/
def may (N : Nat) (arcs : List Arc) (fired : List Int) (v : Int) : Bool := mayB N arcs (toksOf arcs fired) v
theorem may_iff {N : Nat} {arcs : List Arc} {fired : List Int} {v : Nat} : may N arcs fired v = true ↔ v < N ∧ ∀ a ∈ arcs, a.dst = v → a.take ≤ tokOf fired a := by
  have key : (∀ i ∈ ins arcs v, lacks arcs (toksOf arcs fired) i = false) ↔ ∀ a ∈ arcs, a.dst = v → a.take ≤ tokOf fired a := by
    constructor
    · intro h a ha hd
      obtain ⟨i, hi, rfl⟩ := List.getElem_of_mem ha
      have := h i ((mem_ins hi).2 hd)
      rw [lacks_at hi (by rw [toksOf_len]; exact hi)] at this
      simp [toksOf] at this
      exact this
    · intro h i hi
      have hil := ins_lt hi
      rw [lacks_at hil (by rw [toksOf_len]; exact hil)]
      have := h arcs[i] (List.getElem_mem hil) ((mem_ins hil).1 hi)
      simp [toksOf]
      exact this
  unfold may mayB
  rw [Bool.and_eq_true, decide_eq_true_eq, shortF_neg, Int.toNat_natCast, key, okNode_iff]
  constructor
  · rintro ⟨⟨_, h1⟩, h2⟩; exact ⟨by omega, h2⟩
  · rintro ⟨h1, h2⟩; exact ⟨⟨by omega, by omega⟩, h2⟩
theorem may_out {N : Nat} {arcs : List Arc} {fired : List Int} {v : Int} (h : may N arcs fired v = true) : ∃ u : Nat, v = u ∧ u < N := by
  unfold may mayB at h
  rw [Bool.and_eq_true, okNode_iff] at h
  exact ⟨v.toNat, by omega, by omega⟩
/-- Nodes fire one behind the other, up to the first that may not. -/
def fireRun (N : Nat) (arcs : List Arc) : List Int → List Int → Nat × List Int
  | [], f => (0, f)
  | v :: l, f => if may N arcs f v = true then ((fireRun N arcs l (bump f v.toNat)).1 + 1, (fireRun N arcs l (bump f v.toNat)).2) else (0, f)
/-- a state that may be -/
structure Good (N : Nat) (arcs : List Arc) (fired : List Int) (T : Nat) : Prop where
  len : fired.length = N
  lo : ∀ x ∈ fired, 0 ≤ x ∧ x ≤ T
  tok : ∀ a ∈ arcs, 0 ≤ tokOf fired a
theorem Good.at {N T : Nat} {arcs : List Arc} {fired : List Int} (g : Good N arcs fired T) (u : Nat) : 0 ≤ fired.getD u 0 ∧ fired.getD u 0 ≤ T := by
  rw [List.getD_eq_getElem?_getD]
  cases h : fired[u]? with
  | none => simp
  | some x => exact g.lo x (List.mem_of_getElem? h)
theorem Good.bump {N T : Nat} {arcs : List Arc} {fired : List Int} (g : Good N arcs fired T) (hs : chk N arcs = 0) {v : Nat} (hm : may N arcs fired v = true) : Good N arcs (bump fired v) (T + 1) := by
  obtain ⟨hv, hm⟩ := may_iff.1 hm
  refine ⟨by simp [Sx.bump, g.len], fun x hx => ?_, fun a ha => ?_⟩
  · have := g.at v
    rcases List.mem_or_eq_of_mem_set hx with hx | rfl
    · have := g.lo x hx; omega
    · omega
  · have hok := (chk_zero hs).2.2.2 a ha
    have hb := okArc_zero hok
    rw [tokOf_bump hok g.len hv]
    have h0 := g.tok a ha
    by_cases h2 : a.dst = v
    · have := hm a ha h2
      rw [if_pos h2]
      split <;> omega
    · rw [if_neg h2]
      split <;> omega
theorem Good.tok_le {N T : Nat} {arcs : List Arc} {fired : List Int} (g : Good N arcs fired T) (hs : chk N arcs = 0) {a : Arc} (ha : a ∈ arcs) : tokOf fired a ≤ 256 + 64 * T := by
  have hb := okArc_zero ((chk_zero hs).2.2.2 a ha)
  have h1 := g.at a.src.toNat
  have h2 := g.at a.dst.toNat
  obtain ⟨p0, p1⟩ := bnd_mul (x := a.give) (y := fired.getD a.src.toNat 0) (a := 64) (b := T) (by omega) (by omega) h1.1 h1.2
  obtain ⟨p2, p3⟩ := bnd_mul (x := a.take) (y := fired.getD a.dst.toNat 0) (a := 64) (b := T) (by omega) (by omega) h2.1 h2.2
  unfold tokOf
  omega
theorem over_num {l : List Int} {i : Nat} (hi : i < l.length) (x : Int) : over (l.map iv) (0 + i * 1) [iv x] = some ((l.set i x).map iv) := by
  rw [Nat.zero_add, Nat.mul_one, over_one _ _ _ (by simpa using hi), List.map_set]
theorem st_put {hF : Hp} {gt gf : Nat} {toks fired t : List Int} (hne : gt ≠ gf) : (st hF gt gf toks fired).put gt (.cells (t.map iv).toArray 3 (0, 0)) = st hF gt gf t fired := by
  rcases st_tok (hF := hF) (gt := gt) (gf := gf) (toks := toks) (fired := fired) t with h | h
  · exact h
  · exact absurd h hne
theorem ins_len (arcs : List Arc) (v : Nat) : (ins arcs v).length ≤ arcs.length := by
  have := List.length_filter_le (fun i => decide ((arcs[i]?).map Arc.dst = some (v : Int))) (List.range arcs.length)
  simpa [ins] using this
theorem outs_len (arcs : List Arc) (v : Nat) : (outs arcs v).length ≤ arcs.length := by
  have := List.length_filter_le (fun i => decide ((arcs[i]?).map Arc.src = some (v : Int))) (List.range arcs.length)
  simpa [outs] using this
theorem idx_at {l : List Nat} {j : Nat} (hj : j < l.length) : (idxRows l)[j]? = some [iv (l[j] : Int)] := by simp [idxRows, hj]
def inTake (l : List Nat) (j : Nat) : Nat → Bool := fun i => decide (i ∈ l.take j)
theorem inTake_zero (l : List Nat) (i : Nat) : inTake l 0 i = false := by simp [inTake]
theorem inTake_new {l : List Nat} (hn : l.Nodup) {j : Nat} (hj : j < l.length) : inTake l j l[j] = false := by
  simp only [inTake, decide_eq_false_iff_not]
  intro h
  obtain ⟨i, hi, e⟩ := List.getElem_of_mem h
  simp only [List.length_take] at hi
  rw [List.getElem_take] at e
  exact List.pairwise_iff_getElem.1 hn i j (by omega) hj (by omega) e
theorem inTake_one {l : List Nat} {j : Nat} (hj : j < l.length) : inTake l (j + 1) l[j] = true := by
  simp only [inTake, decide_eq_true_eq]
  rw [take_succ' hj, List.mem_append]
  exact .inr (List.mem_singleton.2 rfl)
theorem inTake_old {l : List Nat} {j : Nat} (hj : j < l.length) (i : Nat) (hi : i ≠ l[j]) : inTake l (j + 1) i = inTake l j i := by
  have h : i ∈ l.take (j + 1) ↔ i ∈ l.take j := by
    rw [take_succ' hj, List.mem_append, List.mem_singleton]
    exact ⟨fun h => h.resolve_right hi, .inl⟩
  simp only [inTake, h]
theorem inTake_all (l : List Nat) (i : Nat) : inTake l l.length i = decide (i ∈ l) := by simp [inTake]

theorem fire17 {hF : Hp} {b gt gf N : Nat} {arcs : List Arc} (w : Web hF b gt gf N arcs) (hs : chk N arcs = 0) (zs fired : List Int) (A : Option Addr) (n cap T : Nat) (hz : Tab hF 1 A n (zs.map fun z => [iv z])) (hG : Good N arcs fired T) (hT : T + n ≤ 70368744177664) :
    Fn Tryz.prog 76 #[ptr b, .slice A n cap] (st hF gt gf (toksOf arcs fired) fired) fun r h' => r = iv (fireRun N arcs zs fired).1 ∧ h' = st hF gt gf (toksOf arcs (fireRun N arcs zs fired).2) (fireRun N arcs zs fired).2 := by
  obtain ⟨Aa, Ai, Ao, ca, ci, co, I, O, w0⟩ := w.ex
  have hx : ∀ t f, hF.le (st hF gt gf t f) := fun t f => Hp.le_st w0.freeT w0.freeF
  have hgt : ∀ t f, st hF gt gf t f gt = some (numCells t) := fun t f => st_gt w0.ne
  have hgf : ∀ t f, st hF gt gf t f gf = some (numCells f) := fun t f => st_gf
  have hsz := (chk_zero hs).2.2.1
  have hzl : zs.length = n := by simpa using hz.len
  refine Fn.intro (args := [ptr b, .slice A n cap]) mix14 Tryz.func76 rfl (by decide) Tryz.ntmps76 rfl (low76 rfl) rfl ?_
  conv => whnf
  refine .mk (Nat × List Int) [0, 1, 13, 14, 15] (fun (k, _) => [.v (ptr b), .v (.slice A n cap), .v (.slice A n cap), .v (iv n), .v (iv k)]) (fun _ => [])
    (fun (k, f) h' => h' = st hF gt gf (toksOf arcs f) f ∧ k ≤ n ∧ Good N arcs f (T + k) ∧ fireRun N arcs zs fired = (k + (fireRun N arcs (zs.drop k) f).1, (fireRun N arcs (zs.drop k) f).2))
    (fun (k, _) => n - k) (0, fired) (fun _ => rfl) ⟨rfl, Nat.zero_le _, hG, by simp⟩ rfl rfl ?_
  rintro ⟨k, f⟩ e _ ⟨rfl, hk, hg, hrun⟩
  conv => whnf
  refine br_dec (fun h1 => ?_) (fun h1 => ?_)
  · have hk' : k < n := by omega
    have hd : zs.drop k = zs[k] :: zs.drop (k + 1) := List.drop_eq_getElem_cons (by omega)
    obtain ⟨g, hgA⟩ := hz.ad (by omega)
    conv => whnf
    refine .mk g hgA (by omega) (by omega) ?_
    conv => whnf
    refine .hp (iv zs[k]) (by rw [Int.toNat_natCast]; exact (hz.mono (hx _ _)).one hgA (r := [iv zs[k]]) (by simp [hzl, hk']) rfl) ?_
    conv => whnf
    refine .done (.mk _ (may24 w (toksOf arcs f) f (toksOf_len _ _) hsz zs[k]) ?_)
    rintro _ _ ⟨rfl, rfl⟩
    rw [hd, fireRun] at hrun
    cases hm : mayB N arcs (toksOf arcs f) zs[k] with
    | false =>
      have hm' : may N arcs f zs[k] = false := hm
      rw [hm', if_neg (by simp)] at hrun
      conv => whnf
      refine .done ⟨?_, ?_⟩
      · rw [hrun]; rfl
      · rw [hrun]
    | true =>
      have hm' : may N arcs f zs[k] = true := hm
      rw [hm', if_pos rfl] at hrun
      obtain ⟨u, hu, huN⟩ := may_out hm'
      have hg' := hg.bump hs (v := u) (by rw [← hu]; exact hm')
      rw [hu] at hrun ⊢
      rw [Int.toNat_natCast] at hrun
      have hbase : ∀ (i : Nat) (hi : i < arcs.length), 0 ≤ tokOf f arcs[i] ∧ tokOf f arcs[i] ≤ 256 + 64 * ((T + k : Nat) : Int) ∧ 1 ≤ arcs[i].take ∧ arcs[i].take ≤ 64 ∧ 1 ≤ arcs[i].give ∧ arcs[i].give ≤ 64 := fun i hi => by
        have hm := List.getElem_mem hi
        have hb := okArc_zero ((chk_zero hs).2.2.2 _ hm)
        exact ⟨hg.tok _ hm, hg.tok_le hs hm, by omega, by omega, by omega, by omega⟩
      conv => whnf
      refine .done (.mk _ (needs25 w (hx _ _) u huN) ?_)
      rintro _ _ ⟨⟨A2, c2, rfl, hA2⟩, rfl⟩
      have hil := ins_len arcs u
      have hol := outs_len arcs u
      rw [← tokMask_zero arcs f (p := inTake (ins arcs u) 0) (q := fun _ => false) (inTake_zero _) (fun _ => rfl)]
      conv => whnf
      refine .mk Nat [0, 1, 6, 13, 14, 15, 29, 30, 31] (fun j => [.v (ptr b), .v (.slice A n cap), .v (iv u), .v (.slice A n cap), .v (iv n), .v (iv k), .v (.slice A2 (ins arcs u).length c2), .v (iv (ins arcs u).length), .v (iv j)]) (fun _ => [])
        (fun j h' => h' = st hF gt gf (tokMask arcs f (inTake (ins arcs u) j) (fun _ => false)) f ∧ j ≤ (ins arcs u).length) (fun j => (ins arcs u).length - j) 0 (fun _ => rfl) ⟨rfl, Nat.zero_le _⟩ rfl rfl ?_
      rintro j e2 _ ⟨rfl, hj⟩
      conv => whnf
      refine br_dec (fun h2 => ?_) (fun h2 => ?_)
      · have hj' : j < (ins arcs u).length := by omega
        have hi := ins_lt (List.getElem_mem hj')
        have hnew := inTake_new (nodup_ins arcs u) hj'
        have hone := inTake_one hj'
        have hold := inTake_old hj'
        have hrow := idx_at hj'
        generalize (ins arcs u)[j] = i at hi hnew hone hold hrow
        obtain ⟨g2, hg2⟩ := hA2.ad (by omega)
        obtain ⟨ga, hga⟩ := w0.tab.ad (by omega)
        obtain ⟨b1, b2, b3, b4, b5, b6⟩ := hbase i hi
        have hval := tokMask_at (fired := f) (p := inTake (ins arcs u) j) (q := fun _ => false) hi
        rw [hnew] at hval
        simp only [Bool.false_eq_true, if_false, Int.sub_zero, Int.add_zero] at hval
        have hlen : i < (tokMask arcs f (inTake (ins arcs u) j) (fun _ => false)).length := by rw [tokMask_len]; exact hi
        conv => whnf
        refine .mk g2 hg2 (by omega) (by omega) ?_
        conv => whnf
        refine .hp (iv i) (by rw [Int.toNat_natCast]; exact (hA2.mono (hx _ _)).one hg2 hrow rfl) ?_
        conv => whnf
        refine .hp _ (Hp.cell_le (hx _ _) (head_cell w0.head (j := 3) rfl)) ?_
        conv => whnf
        refine .mk _ rfl (by omega) (by omega) ?_
        conv => whnf
        refine .hp (iv (tokOf f arcs[i])) (by rw [Int.toNat_natCast, ← hval]; exact num_cell (hgt _ _) hlen) ?_
        conv => whnf
        refine .hp _ (Hp.cell_le (hx _ _) (head_cell w0.head (j := 0) rfl)) ?_
        conv => whnf
        refine .mk ga hga (by omega) (by omega) ?_
        conv => whnf
        refine .hp (iv arcs[i].take) (by rw [Int.toNat_natCast, add_add]; exact (w0.tab.mono (hx _ _)).cell ga hga i _ (map_get hi) 3 _ rfl) ?_
        conv => whnf
        refine .ok (by omega) (by omega) ?_
        conv => whnf
        refine .mk _ rfl (by omega) (by omega) ?_
        conv => whnf
        refine .hp gt (0 + i * 1) 3 _ _ (by rw [add_lit, Int.toNat_natCast]) (hgt _ _) (over_num hlen _) ?_
        rw [st_put w0.ne]
        have hsub := tokMask_sub (fired := f) (p := inTake (ins arcs u) j) (p' := inTake (ins arcs u) (j + 1)) (q := fun _ => false) hi hnew hone hold
        rw [hval] at hsub
        rw [hsub]
        conv => whnf
        refine .ok (by omega) (by omega) ?_
        conv => whnf
        exact ⟨j + 1, rfl, rfl, ⟨rfl, hj'⟩, by omega⟩
      have hj2 : j = (ins arcs u).length := by omega
      subst hj2
      rw [tokMask_ext (p' := fun i => decide (i ∈ ins arcs u)) (q' := inTake (outs arcs u) 0) (inTake_all _) (fun i => (inTake_zero _ i).symm)]
      conv => whnf
      refine .done (.mk _ (feeds26 w (hx _ _) u huN) ?_)
      rintro _ _ ⟨⟨A3, c3, rfl, hA3⟩, rfl⟩
      conv => whnf
      refine .mk Nat [0, 1, 6, 13, 14, 15, 58, 59, 60] (fun j => [.v (ptr b), .v (.slice A n cap), .v (iv u), .v (.slice A n cap), .v (iv n), .v (iv k), .v (.slice A3 (outs arcs u).length c3), .v (iv (outs arcs u).length), .v (iv j)]) (fun _ => [])
        (fun j h' => h' = st hF gt gf (tokMask arcs f (fun i => decide (i ∈ ins arcs u)) (inTake (outs arcs u) j)) f ∧ j ≤ (outs arcs u).length) (fun j => (outs arcs u).length - j) 0 (fun _ => rfl) ⟨rfl, Nat.zero_le _⟩ rfl rfl ?_
      rintro j e2 _ ⟨rfl, hj⟩
      conv => whnf
      refine br_dec (fun h2 => ?_) (fun h2 => ?_)
      · have hj' : j < (outs arcs u).length := by omega
        have hi := outs_lt (List.getElem_mem hj')
        have hnew := inTake_new (nodup_outs arcs u) hj'
        have hone := inTake_one hj'
        have hold := inTake_old hj'
        have hrow := idx_at hj'
        generalize (outs arcs u)[j] = i at hi hnew hone hold hrow
        obtain ⟨g2, hg2⟩ := hA3.ad (by omega)
        obtain ⟨ga, hga⟩ := w0.tab.ad (by omega)
        obtain ⟨b1, b2, b3, b4, b5, b6⟩ := hbase i hi
        have hval := tokMask_at (fired := f) (p := fun i => decide (i ∈ ins arcs u)) (q := inTake (outs arcs u) j) hi
        rw [hnew] at hval
        simp only [Bool.false_eq_true, if_false, Int.add_zero] at hval
        have hlen : i < (tokMask arcs f (fun i => decide (i ∈ ins arcs u)) (inTake (outs arcs u) j)).length := by rw [tokMask_len]; exact hi
        have hbnd : -64 ≤ (tokMask arcs f (fun i => decide (i ∈ ins arcs u)) (inTake (outs arcs u) j))[i] ∧ (tokMask arcs f (fun i => decide (i ∈ ins arcs u)) (inTake (outs arcs u) j))[i] ≤ 256 + 64 * ((T + k : Nat) : Int) := by
          rw [hval]; split <;> omega
        have hadd := tokMask_add (fired := f) (p := fun i => decide (i ∈ ins arcs u)) (q := inTake (outs arcs u) j) (q' := inTake (outs arcs u) (j + 1)) hi hnew hone hold
        have hcell := num_cell (hgt (tokMask arcs f (fun i => decide (i ∈ ins arcs u)) (inTake (outs arcs u) j)) f) hlen
        generalize (tokMask arcs f (fun i => decide (i ∈ ins arcs u)) (inTake (outs arcs u) j))[i] = y at hbnd hadd hcell
        conv => whnf
        refine .mk g2 hg2 (by omega) (by omega) ?_
        conv => whnf
        refine .hp (iv i) (by rw [Int.toNat_natCast]; exact (hA3.mono (hx _ _)).one hg2 hrow rfl) ?_
        conv => whnf
        refine .hp _ (Hp.cell_le (hx _ _) (head_cell w0.head (j := 3) rfl)) ?_
        conv => whnf
        refine .mk _ rfl (by omega) (by omega) ?_
        conv => whnf
        refine .hp (iv y) (by rw [Int.toNat_natCast]; exact hcell) ?_
        conv => whnf
        refine .hp _ (Hp.cell_le (hx _ _) (head_cell w0.head (j := 0) rfl)) ?_
        conv => whnf
        refine .mk ga hga (by omega) (by omega) ?_
        conv => whnf
        refine .hp (iv arcs[i].give) (by rw [Int.toNat_natCast, add_add]; exact (w0.tab.mono (hx _ _)).cell ga hga i _ (map_get hi) 2 _ rfl) ?_
        conv => whnf
        refine .ok (by omega) (by omega) ?_
        conv => whnf
        refine .mk _ rfl (by omega) (by omega) ?_
        conv => whnf
        refine .hp gt (0 + i * 1) 3 _ _ (by rw [add_lit, Int.toNat_natCast]) (hgt _ _) (over_num hlen _) ?_
        rw [st_put w0.ne, hadd]
        conv => whnf
        refine .ok (by omega) (by omega) ?_
        conv => whnf
        exact ⟨j + 1, rfl, rfl, ⟨rfl, hj'⟩, by omega⟩
      have hj3 : j = (outs arcs u).length := by omega
      subst hj3
      rw [tokMask_ext (q' := fun i => decide (i ∈ outs arcs u)) (fun _ => rfl) (inTake_all _), tokMask_step hs hg.len huN]
      have hul : u < f.length := by rw [hg.len]; exact huN
      have hub := hg.at u
      have hgu : f.getD u 0 = f[u] := by rw [List.getD_eq_getElem?_getD, List.getElem?_eq_getElem hul]; rfl
      rw [hgu] at hub
      conv => whnf
      refine .hp _ (Hp.cell_le (hx _ _) (head_cell w0.head (j := 4) rfl)) ?_
      conv => whnf
      refine .mk _ rfl (by omega) (by omega) ?_
      conv => whnf
      refine .hp (iv f[u]) (by rw [Int.toNat_natCast]; exact num_cell (hgf _ _) hul) ?_
      conv => whnf
      refine .ok (by omega) (by omega) ?_
      conv => whnf
      refine .mk _ rfl (by omega) (by omega) ?_
      conv => whnf
      refine .hp gf (0 + u * 1) 3 _ _ (by rw [add_lit, Int.toNat_natCast]) (hgf _ _) (over_num hul _) ?_
      rw [show ∀ l : List Int, Obj.cells (l.map iv).toArray 3 (0, 0) = numCells l from fun _ => rfl, st_fir, show f.set u (f[u] + 1) = bump f u by rw [bump, hgu]]
      conv => whnf
      refine .ok (by omega) (by omega) ?_
      conv => whnf
      refine ⟨(k + 1, bump f u), rfl, rfl, ⟨rfl, hk', hg', ?_⟩, by show n - (k + 1) < n - k; omega⟩
      rw [hrun]
      simp only [Prod.mk.injEq, and_true]
      omega
  · rw [List.drop_eq_nil_of_le (by omega)] at hrun
    conv => whnf
    refine .done ⟨?_, ?_⟩
    · rw [hrun]
      have : k = n := by omega
      subst this
      simp [oneVal, fireRun, iv]
    · rw [hrun]; simp [fireRun]
structure Fam (h0 h : Hp) (S : Nat → Prop) (J : Nat → Option Addr × Nat) (ct : Nat → List Nat) : Prop where
  le : h0.le h
  row : ∀ v, S v → RowAt h 3 1 (J v).1 (ct v).length (J v).2 ((idxRows (ct v)).flatten)
  new : ∀ v, S v → ∀ g, (J v).1 = some g → h0 g.block = none
  dist : ∀ v, S v → ∀ u, S u → v ≠ u → ∀ g g', (J v).1 = some g → (J u).1 = some g' → g.block ≠ g'.block
def updJ {α : Type} (J : Nat → α) (v : Nat) (x : α) : Nat → α := fun u => if u = v then x else J u
theorem RowAt.mem {h : Hp} {ety size n cap : Nat} {A : Option Addr} {xs : List Value} (x : RowAt h ety size A n cap xs) {g : Addr} (hg : A = some g) : h g.block ≠ none := by
  rcases x.2 with ⟨h1, _⟩ | ⟨b, cur, h1, h2, _⟩
  · rw [hg] at h1; cases h1
  · rw [hg] at h1; injection h1 with h1; subst h1; rw [h2]; simp
theorem RowAt.mono {h h' : Hp} {ety size n cap : Nat} {A : Option Addr} {xs : List Value} (x : RowAt h ety size A n cap xs) (hle : h.le h') : RowAt h' ety size A n cap xs := by
  obtain ⟨h1, h2⟩ := x
  refine ⟨h1, ?_⟩
  rcases h2 with h2 | ⟨b, cur, e1, e2, e3⟩
  · exact .inl h2
  · exact .inr ⟨b, cur, e1, hle _ _ e2, e3⟩
theorem RowAt.del {h : Hp} {ety size n cap : Nat} {A B : Option Addr} {xs : List Value} (x : RowAt h ety size A n cap xs) (hd : ∀ g g', A = some g → B = some g' → g.block ≠ g'.block) : RowAt (delA h B) ety size A n cap xs := by
  obtain ⟨h1, h2⟩ := x
  refine ⟨h1, ?_⟩
  rcases h2 with h2 | ⟨b, cur, e1, e2, e3⟩
  · exact .inl h2
  · refine .inr ⟨b, cur, e1, ?_, e3⟩
    cases B with
    | none => exact e2
    | some g' => rw [delA, Hp.del_ne _ (hd _ g' e1 rfl)]; exact e2
theorem delA_none {h0 h : Hp} {B : Option Addr} (hle : h0.le h) (hn : ∀ g, B = some g → h0 g.block = none) : h0.le (delA h B) := by
  cases B with
  | none => exact hle
  | some g =>
    intro j o e
    rw [delA, Hp.del_ne _ (fun q => by subst q; rw [hn g rfl] at e; cases e)]
    exact hle j o e
theorem delA_le (h : Hp) (B : Option Addr) : (delA h B).le h := by
  cases B with
  | none => exact Hp.le_refl h
  | some g => exact Hp.del_le h _
theorem Fam.del {h0 h : Hp} {S : Nat → Prop} {J : Nat → Option Addr × Nat} {ct : Nat → List Nat} (f : Fam h0 h S J ct) {v : Nat} (hv : S v) : Fam h0 (delA h (J v).1) (fun u => S u ∧ u ≠ v) J ct :=
  ⟨delA_none f.le (f.new v hv), fun u hu => (f.row u hu.1).del fun g g' h1 h2 => f.dist u hu.1 v hv hu.2 g g' h1 h2, fun u hu => f.new u hu.1, fun u hu w hw => f.dist u hu.1 w hw.1⟩
theorem Fam.add {h0 h h' : Hp} {S : Nat → Prop} {J : Nat → Option Addr × Nat} {ct : Nat → List Nat} (f : Fam h0 h S J ct) {v cap : Nat} {A : Option Addr} {l : List Nat} (hv : ¬ S v) (hle : h.le h') (hr : RowAt h' 3 1 A l.length cap (idxRows l).flatten) (hf : ∀ g, A = some g → h g.block = none) :
    Fam h0 h' (fun u => S u ∨ u = v) (updJ J v (A, cap)) (updJ ct v l) := by
  have hne : ∀ u, S u → u ≠ v := fun u hu e => hv (e ▸ hu)
  have blk : ∀ u, S u → ∀ g g', (J u).1 = some g → A = some g' → g.block ≠ g'.block := fun u hu g g' h1 h2 e => by
    have := (f.row u hu).mem h1
    rw [e, hf g' h2] at this
    exact this rfl
  refine ⟨Hp.le_trans f.le hle, fun u hu => ?_, fun u hu g hg => ?_, fun u hu w hw huw g g' h1 h2 => ?_⟩
  · by_cases e : u = v
    · subst e; simp only [updJ, if_true]; exact hr
    · simp only [updJ, if_neg e]; exact (f.row u (hu.resolve_right e)).mono hle
  · by_cases e : u = v
    · subst e
      simp only [updJ, if_true] at hg
      cases q : h0 g.block with
      | none => rfl
      | some o => have := f.le _ _ q; rw [hf g hg] at this; cases this
    · simp only [updJ, if_neg e] at hg; exact f.new u (hu.resolve_right e) g hg
  · by_cases e : u = v
    · subst e
      have e' : w ≠ u := fun q => huw q.symm
      simp only [updJ, if_true] at h1
      simp only [updJ, if_neg e'] at h2
      exact fun q => blk w (hw.resolve_right e') g' g h2 h1 q.symm
    · simp only [updJ, if_neg e] at h1
      by_cases e' : w = v
      · subst e'
        simp only [updJ, if_true] at h2
        exact blk u (hu.resolve_right e) g g' h1 h2
      · simp only [updJ, if_neg e'] at h2
        exact f.dist u (hu.resolve_right e) w (hw.resolve_right e') huw g g' h1 h2
theorem Fam.zero (h : Hp) (S : Nat → Prop) : Fam h h S (fun _ => (none, 0)) (fun _ => []) :=
  ⟨Hp.le_refl h, fun _ _ => ⟨rfl, .inl ⟨rfl, rfl, rfl⟩⟩, (fun _ _ g e => by cases e), (fun _ _ _ _ _ g g' e => by cases e)⟩
theorem Fam.same {h0 h : Hp} {S S' : Nat → Prop} {J : Nat → Option Addr × Nat} {ct : Nat → List Nat} (f : Fam h0 h S J ct) (hS : ∀ v, S' v → S v) : Fam h0 h S' J ct :=
  ⟨f.le, fun v hv => f.row v (hS v hv), fun v hv => f.new v (hS v hv), fun v hv u hu => f.dist v (hS v hv) u (hS u hu)⟩
def part (arcs : List Arc) (N k v : Nat) : List Nat := if v < N then (List.range k).filter (fun i => decide ((arcs[i]?).map Arc.dst = some (v : Int))) else (List.range k).filter (fun i => decide ((arcs[i]?).map Arc.src = some ((v - N : Nat) : Int)))
theorem part_in {arcs : List Arc} {N v : Nat} (hv : v < N) : part arcs N arcs.length v = ins arcs v := by rw [part, if_pos hv]; rfl
theorem part_out {arcs : List Arc} {N v : Nat} : part arcs N arcs.length (N + v) = outs arcs v := by
  rw [part, if_neg (by omega), Nat.add_sub_cancel_left]; rfl
theorem part_zero (arcs : List Arc) (N v : Nat) : part arcs N 0 v = [] := by simp [part]
theorem part_step {arcs : List Arc} {N k d s : Nat} (hk : k < arcs.length) (hd : arcs[k].dst = d) (hs : arcs[k].src = s) (hdN : d < N) (v : Nat) :
    part arcs N (k + 1) v = updJ (updJ (part arcs N k) d (part arcs N k d ++ [k])) (N + s) (part arcs N k (N + s) ++ [k]) v := by
  have hget : arcs[k]? = some arcs[k] := List.getElem?_eq_getElem hk
  simp only [updJ]
  by_cases h1 : v = N + s
  · subst h1
    rw [if_pos rfl]
    simp only [part, if_neg (show ¬ N + s < N by omega), Nat.add_sub_cancel_left, List.range_succ, List.filter_append]
    simp [hget, hs]
  · rw [if_neg h1]
    by_cases h2 : v = d
    · subst h2
      rw [if_pos rfl]
      simp only [part, if_pos hdN, List.range_succ, List.filter_append]
      simp [hget, hd]
    · rw [if_neg h2]
      unfold part
      split
      · rw [List.range_succ, List.filter_append]
        have : ¬ ((arcs[k]?).map Arc.dst = some (v : Int)) := by
          rw [hget]; simp only [Option.map_some, Option.some.injEq, hd]; omega
        rw [List.filter_cons_of_neg (by simpa only [decide_eq_true_eq] using this), List.filter_nil, List.append_nil]
      · rw [List.range_succ, List.filter_append]
        have : ¬ ((arcs[k]?).map Arc.src = some ((v - N : Nat) : Int)) := by
          rw [hget]; simp only [Option.map_some, Option.some.injEq, hs]; omega
        rw [List.filter_cons_of_neg (by simpa only [decide_eq_true_eq] using this), List.filter_nil, List.append_nil]
end Go.Sx
