/- Layer 14: may a node fire? Conditions: none. -/
import Derived.Test.YtbgfmfgffooniaaS8
namespace Go.Sx
open Go.Proofs
theorem ins_lt {arcs : List Arc} {v i : Nat} (h : i ∈ ins arcs v) : i < arcs.length := by
  simp only [ins, List.mem_filter, List.mem_range] at h; exact h.1
theorem outs_lt {arcs : List Arc} {v i : Nat} (h : i ∈ outs arcs v) : i < arcs.length := by
  simp only [outs, List.mem_filter, List.mem_range] at h; exact h.1
theorem num_cell {hs : Hp} {g : Nat} {l : List Int} (hb : hs g = some (numCells l)) {i : Nat} (hi : i < l.length) : hs.cell? ((Addr.mk g 0 none).add (i * 1)) = some (iv l[i]) := by
  rw [add_lit, Nat.zero_add, Nat.mul_one]
  exact head_cell (cs := l.map iv) hb (by simp [hi])
def lacks (arcs : List Arc) (toks : List Int) (i : Nat) : Bool := decide (toks.getD i 0 < ((arcs[i]?).map Arc.take).getD 0)
def shortF (arcs : List Arc) (toks : List Int) : List Nat → Int
  | [] => -1
  | i :: l => if lacks arcs toks i = true then i else shortF arcs toks l
theorem lacks_at {arcs : List Arc} {toks : List Int} {i : Nat} (hi : i < arcs.length) (ht : i < toks.length) : lacks arcs toks i = decide (toks[i] < arcs[i].take) := by
  simp [lacks, hi, List.getD_eq_getElem?_getD, ht]
theorem short30 {hF : Hp} {b gt gf N : Nat} {arcs : List Arc} (w : Web hF b gt gf N arcs) (toks fired : List Int) (htl : toks.length = arcs.length) (hal : arcs.length ≤ 96) (v : Int) :
    Fn Try.prog 30 #[ptr b, iv v] (st hF gt gf toks fired) fun r h' => r = iv (if okNode N v = true then shortF arcs toks (ins arcs v.toNat) else -1) ∧ h' = st hF gt gf toks fired := by
  obtain ⟨Aa, Ai, Ao, ca, ci, co, I, O, w0⟩ := w.ex
  have x : hF.le (st hF gt gf toks fired) := Hp.le_st w0.freeT w0.freeF
  have hgt : st hF gt gf toks fired gt = some (numCells toks) := st_gt w0.ne
  generalize hh : st hF gt gf toks fired = h at x hgt
  refine Fn.intro (args := [ptr b, iv v]) mix14 Try.func30 rfl (by decide) Try.ntmps30 rfl (low30 rfl) rfl ?_
  conv => whnf
  refine .done (.mk _ (has29 w x v) ?_)
  rintro _ h' ⟨rfl, rfl⟩
  cases hv : okNode N v with
  | false =>
    conv => whnf
    exact .done ⟨rfl, rfl⟩
  | true =>
    obtain ⟨v0, v1⟩ := (okNode_iff _ _).1 hv
    obtain ⟨u, rfl⟩ : ∃ u : Nat, v = u := ⟨v.toNat, by omega⟩
    conv => whnf
    refine .done (.mk _ (needs25 w x u (by omega)) ?_)
    rintro _ h ⟨⟨A, c, rfl, hA⟩, rfl⟩
    have hL : ((ins arcs u).length : Int) ≤ 96 := by
      have : (ins arcs u).length ≤ arcs.length := by
        have := List.length_filter_le (fun i => decide ((arcs[i]?).map Arc.dst = some (u : Int))) (List.range arcs.length)
        simpa [ins] using this
      omega
    conv => whnf
    refine .mk Nat [0, 19, 20, 21] (fun j => [.v (ptr b), .v (.slice A (ins arcs u).length c), .v (iv (ins arcs u).length), .v (iv j)]) (fun _ => []) (fun j h' => h' = h ∧ j ≤ (ins arcs u).length ∧ shortF arcs toks ((ins arcs u).drop j) = shortF arcs toks (ins arcs u)) (fun j => (ins arcs u).length - j) 0 (fun _ => rfl) ⟨rfl, Nat.zero_le _, rfl⟩ rfl rfl ?_
    rintro j e h' ⟨rfl, hj, hf⟩
    conv => whnf
    refine br_dec (fun h1 => ?_) (fun h1 => ?_)
    · have hj' : j < (ins arcs u).length := by omega
      have hd : (ins arcs u).drop j = (ins arcs u)[j] :: (ins arcs u).drop (j + 1) := List.drop_eq_getElem_cons hj'
      have hi := ins_lt (List.getElem_mem hj')
      generalize (ins arcs u)[j] = i at hd hi
      obtain ⟨g, hg⟩ := hA.ad (by omega)
      obtain ⟨ga, hga⟩ := w0.tab.ad (by omega)
      conv => whnf
      refine .mk g hg (by omega) (by omega) ?_
      conv => whnf
      refine .hp (iv i) (by rw [Int.toNat_natCast]; exact (hA.mono x).one hg (r := [iv i]) (by have := congrArg (fun l => l[0]?) hd; simp at this; simp [idxRows, this]) rfl) ?_
      conv => whnf
      refine .hp _ (Hp.cell_le x (head_cell w0.head (j := 3) rfl)) ?_
      conv => whnf
      refine .mk _ rfl (by omega) (by omega) ?_
      conv => whnf
      refine .hp (iv (toks[i]'(by omega))) (by rw [Int.toNat_natCast]; exact num_cell hgt (by omega)) ?_
      conv => whnf
      refine .hp _ (Hp.cell_le x (head_cell w0.head (j := 0) rfl)) ?_
      conv => whnf
      refine .mk ga hga (by omega) (by omega) ?_
      conv => whnf
      refine .hp (iv arcs[i].take) (by rw [Int.toNat_natCast, add_add]; exact (w0.tab.mono x).cell ga hga i _ (map_get hi) 3 _ rfl) ?_
      have hlk := lacks_at (toks := toks) hi (by omega)
      conv => whnf
      refine br_dec (fun h2 => ?_) (fun h2 => ?_)
      · conv => whnf
        refine .done ⟨?_, rfl⟩
        rw [if_pos rfl, Int.toNat_natCast, ← hf, hd, shortF, if_pos (by rw [hlk]; exact decide_eq_true h2)]
        rfl
      · conv => whnf
        refine .ok (by omega) (by omega) ?_
        conv => whnf
        refine ⟨j + 1, rfl, rfl, ⟨rfl, hj', ?_⟩, by omega⟩
        rw [← hf, hd, shortF, if_neg (by rw [hlk]; simpa using h2)]
    · conv => whnf
      refine .done ⟨?_, rfl⟩
      rw [if_pos rfl, Int.toNat_natCast, ← hf, List.drop_eq_nil_of_le (by omega)]
      rfl
theorem shortF_neg {arcs : List Arc} {toks : List Int} : ∀ (l : List Nat), shortF arcs toks l < 0 ↔ ∀ i ∈ l, lacks arcs toks i = false
  | [] => by simp [shortF]
  | i :: l => by
    simp only [shortF]
    cases h : lacks arcs toks i
    · simp [h, shortF_neg l]
    · simp [h]
def mayB (N : Nat) (arcs : List Arc) (toks : List Int) (v : Int) : Bool := okNode N v && decide (shortF arcs toks (ins arcs v.toNat) < 0)
theorem may24 {hF : Hp} {b gt gf N : Nat} {arcs : List Arc} (w : Web hF b gt gf N arcs) (toks fired : List Int) (htl : toks.length = arcs.length) (hal : arcs.length ≤ 96) (v : Int) :
    Fn Try.prog 24 #[ptr b, iv v] (st hF gt gf toks fired) fun r h' => r = .bool (mayB N arcs toks v) ∧ h' = st hF gt gf toks fired := by
  obtain ⟨Aa, Ai, Ao, ca, ci, co, I, O, w0⟩ := w.ex
  have x : hF.le (st hF gt gf toks fired) := Hp.le_st w0.freeT w0.freeF
  refine Fn.intro (args := [ptr b, iv v]) mix14 Try.func24 rfl (by decide) Try.ntmps24 rfl (low24 rfl) rfl ?_
  conv => whnf
  refine .done (.mk _ (has29 w x v) ?_)
  rintro _ h' ⟨rfl, rfl⟩
  cases hv : okNode N v with
  | false =>
    conv => whnf
    refine .done ⟨?_, rfl⟩
    simp [oneVal, mayB, hv]
  | true =>
    conv => whnf
    refine .done (.mk _ (short30 w toks fired htl hal v) ?_)
    rintro _ h' ⟨rfl, rfl⟩
    conv => whnf
    refine .done ⟨?_, rfl⟩
    simp [oneVal, mayB, hv]
end Go.Sx
