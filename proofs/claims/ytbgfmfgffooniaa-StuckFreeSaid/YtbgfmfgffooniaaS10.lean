/- Layer 14: nodes fire. Conditions: none. -/
import Derived.Test.YtbgfmfgffooniaaC4
namespace Go.Sx
open Go.Proofs
theorem over_num {l : List Int} {i : Nat} (hi : i < l.length) (x : Int) : over (l.map iv) (0 + i * 1) [iv x] = some ((l.set i x).map iv) := by
  rw [Nat.zero_add, Nat.mul_one, over_one _ _ _ (by simpa using hi), List.map_set]
theorem st_put {hF : Hp} {gt gf : Nat} {toks fired t : List Int} (hne : gt ≠ gf) : (st hF gt gf toks fired).put gt (.cells (t.map iv).toArray 3 (0, 0)) = st hF gt gf t fired := by
  rcases st_tok (hF := hF) (gt := gt) (gf := gf) (toks := toks) (fired := fired) t with h | h
  · exact h
  · exact absurd h hne
theorem ins_len (arcs : List Arc) (v : Nat) : (ins arcs v).length ≤ arcs.length := by
  have := List.length_filter_le (fun i => decide ((arcs[i]?).map Arc.dst = some (v : Int))) (List.range arcs.length)
  simpa [ins] using this
theorem outs_len (arcs : List Arc) (v : Nat) : (outs arcs v).length ≤ arcs.length := by
  have := List.length_filter_le (fun i => decide ((arcs[i]?).map Arc.src = some (v : Int))) (List.range arcs.length)
  simpa [outs] using this
theorem idx_at {l : List Nat} {j : Nat} (hj : j < l.length) : (idxRows l)[j]? = some [iv (l[j] : Int)] := by simp [idxRows, hj]
def inTake (l : List Nat) (j : Nat) : Nat → Bool := fun i => decide (i ∈ l.take j)
theorem inTake_zero (l : List Nat) (i : Nat) : inTake l 0 i = false := by simp [inTake]
theorem inTake_new {l : List Nat} (hn : l.Nodup) {j : Nat} (hj : j < l.length) : inTake l j l[j] = false := by
  simp only [inTake, decide_eq_false_iff_not]
  intro h
  obtain ⟨i, hi, e⟩ := List.getElem_of_mem h
  simp only [List.length_take] at hi
  rw [List.getElem_take] at e
  exact List.pairwise_iff_getElem.1 hn i j (by omega) hj (by omega) e
theorem inTake_one {l : List Nat} {j : Nat} (hj : j < l.length) : inTake l (j + 1) l[j] = true := by
  simp only [inTake, decide_eq_true_eq]
  rw [take_succ' hj, List.mem_append]
  exact .inr (List.mem_singleton.2 rfl)
theorem inTake_old {l : List Nat} {j : Nat} (hj : j < l.length) (i : Nat) (hi : i ≠ l[j]) : inTake l (j + 1) i = inTake l j i := by
  have h : i ∈ l.take (j + 1) ↔ i ∈ l.take j := by
    rw [take_succ' hj, List.mem_append, List.mem_singleton]
    exact ⟨fun h => h.resolve_right hi, .inl⟩
  simp only [inTake, h]
theorem inTake_all (l : List Nat) (i : Nat) : inTake l l.length i = decide (i ∈ l) := by simp [inTake]

theorem fire17 {hF : Hp} {b gt gf N : Nat} {arcs : List Arc} (w : Web hF b gt gf N arcs) (hs : chk N arcs = 0) (zs fired : List Int) (A : Option Addr) (n cap T : Nat) (hz : Tab hF 1 A n (zs.map fun z => [iv z])) (hG : Good N arcs fired T) (hT : T + n ≤ 70368744177664) :
    Fn Try.prog 17 #[ptr b, .slice A n cap] (st hF gt gf (toksOf arcs fired) fired) fun r h' => r = iv (fireRun N arcs zs fired).1 ∧ h' = st hF gt gf (toksOf arcs (fireRun N arcs zs fired).2) (fireRun N arcs zs fired).2 := by
  obtain ⟨Aa, Ai, Ao, ca, ci, co, I, O, w0⟩ := w.ex
  have hx : ∀ t f, hF.le (st hF gt gf t f) := fun t f => Hp.le_st w0.freeT w0.freeF
  have hgt : ∀ t f, st hF gt gf t f gt = some (numCells t) := fun t f => st_gt w0.ne
  have hgf : ∀ t f, st hF gt gf t f gf = some (numCells f) := fun t f => st_gf
  have hsz := (chk_zero hs).2.2.1
  have hzl : zs.length = n := by simpa using hz.len
  refine Fn.intro (args := [ptr b, .slice A n cap]) mix14 Try.func17 rfl (by decide) Try.ntmps17 rfl (low17 rfl) rfl ?_
  conv => whnf
  refine .mk (Nat × List Int) [0, 1, 13, 14, 15] (fun (k, _) => [.v (ptr b), .v (.slice A n cap), .v (.slice A n cap), .v (iv n), .v (iv k)]) (fun _ => [])
    (fun (k, f) h' => h' = st hF gt gf (toksOf arcs f) f ∧ k ≤ n ∧ Good N arcs f (T + k) ∧ fireRun N arcs zs fired = (k + (fireRun N arcs (zs.drop k) f).1, (fireRun N arcs (zs.drop k) f).2))
    (fun (k, _) => n - k) (0, fired) (fun _ => rfl) ⟨rfl, Nat.zero_le _, hG, by simp⟩ rfl rfl ?_
  rintro ⟨k, f⟩ e _ ⟨rfl, hk, hg, hrun⟩
  conv => whnf
  refine br_dec (fun h1 => ?_) (fun h1 => ?_)
  · have hk' : k < n := by omega
    have hd : zs.drop k = zs[k] :: zs.drop (k + 1) := List.drop_eq_getElem_cons (by omega)
    obtain ⟨g, hgA⟩ := hz.ad (by omega)
    conv => whnf
    refine .mk g hgA (by omega) (by omega) ?_
    conv => whnf
    refine .hp (iv zs[k]) (by rw [Int.toNat_natCast]; exact (hz.mono (hx _ _)).one hgA (r := [iv zs[k]]) (by simp [hzl, hk']) rfl) ?_
    conv => whnf
    refine .done (.mk _ (may24 w (toksOf arcs f) f (toksOf_len _ _) hsz zs[k]) ?_)
    rintro _ _ ⟨rfl, rfl⟩
    rw [hd, fireRun] at hrun
    cases hm : mayB N arcs (toksOf arcs f) zs[k] with
    | false =>
      have hm' : may N arcs f zs[k] = false := hm
      rw [hm', if_neg (by simp)] at hrun
      conv => whnf
      refine .done ⟨?_, ?_⟩
      · rw [hrun]; rfl
      · rw [hrun]
    | true =>
      have hm' : may N arcs f zs[k] = true := hm
      rw [hm', if_pos rfl] at hrun
      obtain ⟨u, hu, huN⟩ := may_out hm'
      have hg' := hg.bump hs (v := u) (by rw [← hu]; exact hm')
      rw [hu] at hrun ⊢
      rw [Int.toNat_natCast] at hrun
      have hbase : ∀ (i : Nat) (hi : i < arcs.length), 0 ≤ tokOf f arcs[i] ∧ tokOf f arcs[i] ≤ 256 + 64 * ((T + k : Nat) : Int) ∧ 1 ≤ arcs[i].take ∧ arcs[i].take ≤ 64 ∧ 1 ≤ arcs[i].give ∧ arcs[i].give ≤ 64 := fun i hi => by
        have hm := List.getElem_mem hi
        have hb := okArc_zero ((chk_zero hs).2.2.2 _ hm)
        exact ⟨hg.tok _ hm, hg.tok_le hs hm, by omega, by omega, by omega, by omega⟩
      conv => whnf
      refine .done (.mk _ (needs25 w (hx _ _) u huN) ?_)
      rintro _ _ ⟨⟨A2, c2, rfl, hA2⟩, rfl⟩
      have hil := ins_len arcs u
      have hol := outs_len arcs u
      rw [← tokMask_zero arcs f (p := inTake (ins arcs u) 0) (q := fun _ => false) (inTake_zero _) (fun _ => rfl)]
      conv => whnf
      refine .mk Nat [0, 1, 6, 13, 14, 15, 29, 30, 31] (fun j => [.v (ptr b), .v (.slice A n cap), .v (iv u), .v (.slice A n cap), .v (iv n), .v (iv k), .v (.slice A2 (ins arcs u).length c2), .v (iv (ins arcs u).length), .v (iv j)]) (fun _ => [])
        (fun j h' => h' = st hF gt gf (tokMask arcs f (inTake (ins arcs u) j) (fun _ => false)) f ∧ j ≤ (ins arcs u).length) (fun j => (ins arcs u).length - j) 0 (fun _ => rfl) ⟨rfl, Nat.zero_le _⟩ rfl rfl ?_
      rintro j e2 _ ⟨rfl, hj⟩
      conv => whnf
      refine br_dec (fun h2 => ?_) (fun h2 => ?_)
      · have hj' : j < (ins arcs u).length := by omega
        have hi := ins_lt (List.getElem_mem hj')
        have hnew := inTake_new (nodup_ins arcs u) hj'
        have hone := inTake_one hj'
        have hold := inTake_old hj'
        have hrow := idx_at hj'
        generalize (ins arcs u)[j] = i at hi hnew hone hold hrow
        obtain ⟨g2, hg2⟩ := hA2.ad (by omega)
        obtain ⟨ga, hga⟩ := w0.tab.ad (by omega)
        obtain ⟨b1, b2, b3, b4, b5, b6⟩ := hbase i hi
        have hval := tokMask_at (fired := f) (p := inTake (ins arcs u) j) (q := fun _ => false) hi
        rw [hnew] at hval
        simp only [Bool.false_eq_true, if_false, Int.sub_zero, Int.add_zero] at hval
        have hlen : i < (tokMask arcs f (inTake (ins arcs u) j) (fun _ => false)).length := by rw [tokMask_len]; exact hi
        conv => whnf
        refine .mk g2 hg2 (by omega) (by omega) ?_
        conv => whnf
        refine .hp (iv i) (by rw [Int.toNat_natCast]; exact (hA2.mono (hx _ _)).one hg2 hrow rfl) ?_
        conv => whnf
        refine .hp _ (Hp.cell_le (hx _ _) (head_cell w0.head (j := 3) rfl)) ?_
        conv => whnf
        refine .mk _ rfl (by omega) (by omega) ?_
        conv => whnf
        refine .hp (iv (tokOf f arcs[i])) (by rw [Int.toNat_natCast, ← hval]; exact num_cell (hgt _ _) hlen) ?_
        conv => whnf
        refine .hp _ (Hp.cell_le (hx _ _) (head_cell w0.head (j := 0) rfl)) ?_
        conv => whnf
        refine .mk ga hga (by omega) (by omega) ?_
        conv => whnf
        refine .hp (iv arcs[i].take) (by rw [Int.toNat_natCast, add_add]; exact (w0.tab.mono (hx _ _)).cell ga hga i _ (map_get hi) 3 _ rfl) ?_
        conv => whnf
        refine .ok (by omega) (by omega) ?_
        conv => whnf
        refine .mk _ rfl (by omega) (by omega) ?_
        conv => whnf
        refine .hp gt (0 + i * 1) 3 _ _ (by rw [add_lit, Int.toNat_natCast]) (hgt _ _) (over_num hlen _) ?_
        rw [st_put w0.ne]
        have hsub := tokMask_sub (fired := f) (p := inTake (ins arcs u) j) (p' := inTake (ins arcs u) (j + 1)) (q := fun _ => false) hi hnew hone hold
        rw [hval] at hsub
        rw [hsub]
        conv => whnf
        refine .ok (by omega) (by omega) ?_
        conv => whnf
        exact ⟨j + 1, rfl, rfl, ⟨rfl, hj'⟩, by omega⟩
      have hj2 : j = (ins arcs u).length := by omega
      subst hj2
      rw [tokMask_ext (p' := fun i => decide (i ∈ ins arcs u)) (q' := inTake (outs arcs u) 0) (inTake_all _) (fun i => (inTake_zero _ i).symm)]
      conv => whnf
      refine .done (.mk _ (feeds26 w (hx _ _) u huN) ?_)
      rintro _ _ ⟨⟨A3, c3, rfl, hA3⟩, rfl⟩
      conv => whnf
      refine .mk Nat [0, 1, 6, 13, 14, 15, 58, 59, 60] (fun j => [.v (ptr b), .v (.slice A n cap), .v (iv u), .v (.slice A n cap), .v (iv n), .v (iv k), .v (.slice A3 (outs arcs u).length c3), .v (iv (outs arcs u).length), .v (iv j)]) (fun _ => [])
        (fun j h' => h' = st hF gt gf (tokMask arcs f (fun i => decide (i ∈ ins arcs u)) (inTake (outs arcs u) j)) f ∧ j ≤ (outs arcs u).length) (fun j => (outs arcs u).length - j) 0 (fun _ => rfl) ⟨rfl, Nat.zero_le _⟩ rfl rfl ?_
      rintro j e2 _ ⟨rfl, hj⟩
      conv => whnf
      refine br_dec (fun h2 => ?_) (fun h2 => ?_)
      · have hj' : j < (outs arcs u).length := by omega
        have hi := outs_lt (List.getElem_mem hj')
        have hnew := inTake_new (nodup_outs arcs u) hj'
        have hone := inTake_one hj'
        have hold := inTake_old hj'
        have hrow := idx_at hj'
        generalize (outs arcs u)[j] = i at hi hnew hone hold hrow
        obtain ⟨g2, hg2⟩ := hA3.ad (by omega)
        obtain ⟨ga, hga⟩ := w0.tab.ad (by omega)
        obtain ⟨b1, b2, b3, b4, b5, b6⟩ := hbase i hi
        have hval := tokMask_at (fired := f) (p := fun i => decide (i ∈ ins arcs u)) (q := inTake (outs arcs u) j) hi
        rw [hnew] at hval
        simp only [Bool.false_eq_true, if_false, Int.add_zero] at hval
        have hlen : i < (tokMask arcs f (fun i => decide (i ∈ ins arcs u)) (inTake (outs arcs u) j)).length := by rw [tokMask_len]; exact hi
        have hbnd : -64 ≤ (tokMask arcs f (fun i => decide (i ∈ ins arcs u)) (inTake (outs arcs u) j))[i] ∧ (tokMask arcs f (fun i => decide (i ∈ ins arcs u)) (inTake (outs arcs u) j))[i] ≤ 256 + 64 * ((T + k : Nat) : Int) := by
          rw [hval]; split <;> omega
        have hadd := tokMask_add (fired := f) (p := fun i => decide (i ∈ ins arcs u)) (q := inTake (outs arcs u) j) (q' := inTake (outs arcs u) (j + 1)) hi hnew hone hold
        have hcell := num_cell (hgt (tokMask arcs f (fun i => decide (i ∈ ins arcs u)) (inTake (outs arcs u) j)) f) hlen
        generalize (tokMask arcs f (fun i => decide (i ∈ ins arcs u)) (inTake (outs arcs u) j))[i] = y at hbnd hadd hcell
        conv => whnf
        refine .mk g2 hg2 (by omega) (by omega) ?_
        conv => whnf
        refine .hp (iv i) (by rw [Int.toNat_natCast]; exact (hA3.mono (hx _ _)).one hg2 hrow rfl) ?_
        conv => whnf
        refine .hp _ (Hp.cell_le (hx _ _) (head_cell w0.head (j := 3) rfl)) ?_
        conv => whnf
        refine .mk _ rfl (by omega) (by omega) ?_
        conv => whnf
        refine .hp (iv y) (by rw [Int.toNat_natCast]; exact hcell) ?_
        conv => whnf
        refine .hp _ (Hp.cell_le (hx _ _) (head_cell w0.head (j := 0) rfl)) ?_
        conv => whnf
        refine .mk ga hga (by omega) (by omega) ?_
        conv => whnf
        refine .hp (iv arcs[i].give) (by rw [Int.toNat_natCast, add_add]; exact (w0.tab.mono (hx _ _)).cell ga hga i _ (map_get hi) 2 _ rfl) ?_
        conv => whnf
        refine .ok (by omega) (by omega) ?_
        conv => whnf
        refine .mk _ rfl (by omega) (by omega) ?_
        conv => whnf
        refine .hp gt (0 + i * 1) 3 _ _ (by rw [add_lit, Int.toNat_natCast]) (hgt _ _) (over_num hlen _) ?_
        rw [st_put w0.ne, hadd]
        conv => whnf
        refine .ok (by omega) (by omega) ?_
        conv => whnf
        exact ⟨j + 1, rfl, rfl, ⟨rfl, hj'⟩, by omega⟩
      have hj3 : j = (outs arcs u).length := by omega
      subst hj3
      rw [tokMask_ext (q' := fun i => decide (i ∈ outs arcs u)) (fun _ => rfl) (inTake_all _), tokMask_step hs hg.len huN]
      have hul : u < f.length := by rw [hg.len]; exact huN
      have hub := hg.at u
      have hgu : f.getD u 0 = f[u] := by rw [List.getD_eq_getElem?_getD, List.getElem?_eq_getElem hul]; rfl
      rw [hgu] at hub
      conv => whnf
      refine .hp _ (Hp.cell_le (hx _ _) (head_cell w0.head (j := 4) rfl)) ?_
      conv => whnf
      refine .mk _ rfl (by omega) (by omega) ?_
      conv => whnf
      refine .hp (iv f[u]) (by rw [Int.toNat_natCast]; exact num_cell (hgf _ _) hul) ?_
      conv => whnf
      refine .ok (by omega) (by omega) ?_
      conv => whnf
      refine .mk _ rfl (by omega) (by omega) ?_
      conv => whnf
      refine .hp gf (0 + u * 1) 3 _ _ (by rw [add_lit, Int.toNat_natCast]) (hgf _ _) (over_num hul _) ?_
      rw [show ∀ l : List Int, Obj.cells (l.map iv).toArray 3 (0, 0) = numCells l from fun _ => rfl, st_fir, show f.set u (f[u] + 1) = bump f u by rw [bump, hgu]]
      conv => whnf
      refine .ok (by omega) (by omega) ?_
      conv => whnf
      refine ⟨(k + 1, bump f u), rfl, rfl, ⟨rfl, hk', hg', ?_⟩, by show n - (k + 1) < n - k; omega⟩
      rw [hrun]
      simp only [Prod.mk.injEq, and_true]
      omega
  · rw [List.drop_eq_nil_of_le (by omega)] at hrun
    conv => whnf
    refine .done ⟨?_, ?_⟩
    · rw [hrun]
      have : k = n := by omega
      subst this
      simp [oneVal, fireRun, iv]
    · rw [hrun]; simp [fireRun]
end Go.Sx
