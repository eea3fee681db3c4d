/- Layer 19: a plan lies tight: its total lies between the greatest peak and their sum. Conditions: none. -/
import Derived.Test.YthibgmkobcbhhaaM19V
namespace Go.Sx
open Go.Proofs Go.Sort
set_option maxRecDepth 100000
theorem foldmax_le : ∀ (l : List Int) (a n : Int), l.foldl max a ≤ n ↔ a ≤ n ∧ ∀ x ∈ l, x ≤ n
  | [], a, n => by simp
  | x :: l, a, n => by
    simp only [List.foldl_cons, foldmax_le l, List.mem_cons, forall_eq_or_imp]
    constructor
    · rintro ⟨h, h2⟩; exact ⟨by omega, by omega, h2⟩
    · rintro ⟨h, h1, h2⟩; exact ⟨by omega, h2⟩
def greatR (l : List Int) : Int := l.foldl max 0
theorem greatR_snoc (l : List Int) (x : Int) : greatR (l ++ [x]) = max (greatR l) x := by simp [greatR]
theorem great_ge {l : List Int} {x : Int} (h : x ∈ l) : x ≤ greatR l := ((foldmax_le l 0 _).1 (Int.le_refl _)).2 x h
theorem great_pos (l : List Int) : 0 ≤ greatR l := ((foldmax_le l 0 _).1 (Int.le_refl _)).1
theorem pk_map {pk : List Int} {m : Nat} (h : pk.length = m) : (List.range m).map (pkAt pk) = pk := by
  apply List.ext_getElem?
  intro i
  rw [List.getElem?_map]
  by_cases hi : i < m
  · rw [List.getElem?_range hi]
    unfold pkAt
    rw [Option.map_some, List.getD_eq_getElem?_getD, List.getElem?_eq_getElem (by omega)]
    rfl
  · rw [List.getElem?_eq_none (by simpa using hi), List.getElem?_eq_none (by omega)]
    rfl
theorem pk_mem {pk : List Int} {m : Nat} (h : pk.length = m) {x : Int} (hx : x ∈ pk) : ∃ i, i < m ∧ x = pkAt pk i := by
  obtain ⟨i, hi, rfl⟩ := List.getElem_of_mem hx
  refine ⟨i, by omega, ?_⟩
  unfold pkAt
  rw [List.getD_eq_getElem?_getD, List.getElem?_eq_getElem hi]
  rfl
theorem reg_mem {rows : List (List Int)} {m : Nat} {pk : List Int} {regs : List Pr} (f : Fin rows m pk regs) {x : Pr} (hx : x ∈ regs) : ∃ i, i < m ∧ x = regAt regs i := by
  obtain ⟨i, hi, rfl⟩ := List.getElem_of_mem hx
  refine ⟨i, by rw [← f.len]; exact hi, ?_⟩
  unfold regAt
  rw [List.getD_eq_getElem?_getD, List.getElem?_eq_getElem hi]
  rfl
section
variable {rows : List (List Int)} {m : Nat} {pk : List Int} {regs : List Pr}
theorem fin_great (f : Fin rows m pk regs) (hl : pk.length = m) : greatR pk ≤ totalR regs := by
  refine (foldmax_le pk 0 _).2 ⟨total_pos _, fun x hx => ?_⟩
  obtain ⟨i, hi, rfl⟩ := pk_mem hl hx
  have h1 := f.size i hi
  have h2 := f.base i hi
  have h3 := fin_total f hi
  omega
theorem sum_pos {l : List Int} (h : ∀ x ∈ l, 0 ≤ x) : 0 ≤ l.sum := by
  induction l with
  | nil => simp
  | cons x l ih =>
    have := h x (List.mem_cons_self ..)
    have := ih fun y hy => h y (List.mem_cons_of_mem _ hy)
    rw [List.sum_cons]; omega
theorem pk_pos (hpk : ∀ i, 0 ≤ pkAt pk i) (hl : pk.length = m) : ∀ x ∈ pk, 0 ≤ x := fun x hx => by
  obtain ⟨i, _, rfl⟩ := pk_mem hl hx
  exact hpk i
theorem fin_sum (f : Fin rows m pk regs) (hpk : ∀ i, 0 ≤ pkAt pk i) (hl : pk.length = m) : totalR regs ≤ pk.sum := by
  refine total_le.2 ⟨sum_pos (pk_pos hpk hl), fun x hx => ?_⟩
  obtain ⟨i, hi, rfl⟩ := reg_mem f hx
  have := f.endd i hi
  rwa [pk_map hl] at this
theorem fin_none (f : Fin rows m pk regs) (hl : pk.length = m) (hn : pairsR rows m = []) : totalR regs = greatR pk := by
  refine Int.le_antisymm (total_le.2 ⟨great_pos _, fun x hx => ?_⟩) (fin_great f hl)
  obtain ⟨i, hi, rfl⟩ := reg_mem f hx
  have h1 := f.size i hi
  have h2 : pkAt pk i ≤ greatR pk := by
    refine great_ge ?_
    unfold pkAt
    rw [List.getD_eq_getElem?_getD, List.getElem?_eq_getElem (by omega)]
    exact List.getElem_mem _
  rcases f.tight i hi with t | ⟨j, _, hc, _⟩
  · omega
  · unfold Cl at hc
    rw [hn] at hc
    rcases hc with hc | hc <;> cases hc
end
def arcP : List Nat → List Pr
  | [] => []
  | x :: xs => xs.map (fun y : Nat => ((x : Int), (y : Int))) ++ arcP xs
theorem arcP_len : ∀ l : List Nat, 2 * (arcP l).length = l.length * (l.length - 1)
  | [] => rfl
  | x :: xs => by
    have ih := arcP_len xs
    rw [arcP, List.length_append, List.length_map, List.length_cons]
    generalize (arcP xs).length = a at ih ⊢
    generalize xs.length = n at ih ⊢
    rw [Nat.mul_add, ih, Nat.add_sub_cancel]
    cases n with
    | zero => rfl
    | succ k =>
      rw [Nat.add_sub_cancel, Nat.add_mul (k + 1) 1 (k + 1), Nat.mul_add (k + 1) k 1]
      omega
theorem mem_arcP : ∀ {l : List Nat}, l.Pairwise (· < ·) → ∀ {i j : Nat}, i ∈ l → j ∈ l → i < j → ((i : Int), (j : Int)) ∈ arcP l
  | [], _, _, _, h, _, _ => by cases h
  | x :: xs, hp, i, j, hi, hj, hij => by
    obtain ⟨hx, hp⟩ := List.pairwise_cons.1 hp
    rw [arcP, List.mem_append]
    rcases List.mem_cons.1 hj with e1 | hj2
    · rcases List.mem_cons.1 hi with e2 | hi2
      · omega
      · have := hx i hi2; omega
    · rcases List.mem_cons.1 hi with e2 | hi2
      · exact .inl (List.mem_map.2 ⟨j, hj2, by rw [e2]⟩)
      · exact .inr (mem_arcP hp hi2 hj2 hij)
theorem full_mem {ps qs : List Pr} (hn : ps.Nodup) (hs : ps ⊆ qs) (hl : qs.length ≤ ps.length) {q : Pr} (hq : q ∈ qs) : q ∈ ps := by
  refine Decidable.byContradiction fun hno => ?_
  have h1 : ps ⊆ qs.erase q := fun p hp => (List.mem_erase_of_ne fun e => hno (by rw [← e]; exact hp)).2 (hs hp)
  have h2 := hn.length_le_of_subset h1
  have h3 := List.length_erase_of_mem hq
  have := List.length_pos_of_mem hq
  omega
theorem sum_filter {f : Nat → Int} (hf : ∀ i, 0 ≤ f i) : ∀ l : List Nat, (l.map f).sum = ((l.filter fun i => decide (0 < f i)).map f).sum
  | [] => rfl
  | x :: xs => by
    have ih := sum_filter hf xs
    rw [List.map_cons, List.sum_cons, List.filter_cons]
    have := hf x
    split
    · rw [List.map_cons, List.sum_cons, ih]
    · rename_i h
      rw [decide_eq_true_iff] at h
      omega
def liveR (l : List Int) : Nat := (l.filter fun x => decide (0 < x)).length
theorem liveR_snoc (l : List Int) (x : Int) : liveR (l ++ [x]) = liveR l + if 0 < x then 1 else 0 := by
  unfold liveR
  rw [List.filter_append, List.length_append]
  by_cases h : 0 < x
  · rw [if_pos h]; simp [h]
  · rw [if_neg h]; simp [h]
theorem liveR_le (l : List Int) : liveR l ≤ l.length := List.length_filter_le ..
theorem live_eq {pk : List Int} {m : Nat} (hl : pk.length = m) : ((List.range m).filter fun i => decide (0 < pkAt pk i)).length = liveR pk := by
  unfold liveR
  conv => rhs; rw [← pk_map hl]
  rw [List.filter_map, List.length_map]
  rfl
theorem fin_all {rows : List (List Int)} {m : Nat} {pk : List Int} {regs : List Pr} (f : Fin rows m pk regs) (hpk : ∀ i, 0 ≤ pkAt pk i) (hl : pk.length = m) (hup : ∀ i, i < m → ∀ r ∈ rows, r.getD i 0 ≤ pkAt pk i)
    (hn : liveR pk * (liveR pk - 1) = 2 * (pairsR rows m).length) : totalR regs = pk.sum := by
  refine Int.le_antisymm (fin_sum f hpk hl) ?_
  have hlv := live_eq hl
  obtain ⟨lv, hdef⟩ : ∃ lv, lv = (List.range m).filter fun i => decide (0 < pkAt pk i) := ⟨_, rfl⟩
  rw [← hdef] at hlv
  have hm : ∀ i, i ∈ lv ↔ i < m ∧ 0 < pkAt pk i := fun i => by rw [hdef, List.mem_filter, List.mem_range, decide_eq_true_iff]
  have hpw : lv.Pairwise (· < ·) := by rw [hdef]; exact List.pairwise_lt_range.sublist List.filter_sublist
  have hnd : (pairsR rows m).Nodup := (pairs_sorted rows m).imp fun {a b} h e => by rw [e] at h; exact pl_irr _ h
  have hsub : pairsR rows m ⊆ arcP lv := fun p hp => by
    obtain ⟨i, j, rfl, a, b, h⟩ := pairs_mem.1 hp
    unfold meets at h
    obtain ⟨r, hr, h⟩ := List.any_eq_true.1 h
    rw [Bool.and_eq_true] at h
    unfold posAt at h
    rw [decide_eq_true_iff, decide_eq_true_iff] at h
    have h1 := hup i (by omega) r hr
    have h2 := hup j b r hr
    exact mem_arcP hpw ((hm i).2 ⟨by omega, by omega⟩) ((hm j).2 ⟨b, by omega⟩) a
  have hlen := arcP_len lv
  have hall : ∀ i ∈ lv, ∀ j ∈ lv, i < j → ((i : Int), (j : Int)) ∈ pairsR rows m := fun i hi j hj hij =>
    full_mem hnd hsub (by rw [hlv] at hlen; omega) (mem_arcP hpw hi hj hij)
  have h := disj_sum (T := totalR regs) (lv.map fun i => regAt regs i) (fun x hx => by
    obtain ⟨i, hi, rfl⟩ := List.mem_map.1 hx
    have hi := ((hm i).1 hi).1
    have h1 := f.base i hi
    have h2 := f.size i hi
    have h3 := hpk i
    exact ⟨h1, by omega, fin_total f hi⟩) (by
    rw [List.pairwise_map]
    exact hpw.imp_of_mem fun {i j} hi hj hij => f.apart i ((hm i).1 hi).1 j ((hm j).1 hj).1 (.inl (hall i hi j hj hij))) (total_pos _)
  rw [List.map_map] at h
  have e1 : pk.sum = (lv.map (pkAt pk)).sum := by
    conv => lhs; rw [← pk_map hl]
    rw [sum_filter hpk, ← hdef]
  have e2 : lv.map (pkAt pk) = lv.map ((fun x : Pr => x.2) ∘ fun i => regAt regs i) := List.map_congr_left fun i hi => (f.size i ((hm i).1 hi).1).symm
  rw [e1, e2]
  exact h
/-- an arc's region ends where this one begins, and they clash -/
def hitB (regs : List Pr) (i : Nat) (b : Int) (p : Pr) : Bool :=
  (decide (p.1 = i) && decide ((regAt regs p.2.toNat).1 + (regAt regs p.2.toNat).2 = b)) || (decide (p.2 = i) && decide ((regAt regs p.1.toNat).1 + (regAt regs p.1.toNat).2 = b))
def tightR (regs : List Pr) (i : Nat) (b : Int) (ps : List Pr) : Bool := decide (b = 0) || ps.any (hitB regs i b)
theorem tightR_snoc (regs : List Pr) (i : Nat) (b : Int) (ps : List Pr) (p : Pr) : tightR regs i b (ps ++ [p]) = (tightR regs i b ps || hitB regs i b p) := by
  simp [tightR, Bool.or_assoc]
theorem fin_tight {rows : List (List Int)} {m : Nat} {pk : List Int} {regs : List Pr} (f : Fin rows m pk regs) {i : Nat} (hi : i < m) : tightR regs i (regAt regs i).1 (pairsR rows m) = true := by
  unfold tightR
  rw [Bool.or_eq_true, decide_eq_true_iff, List.any_eq_true]
  rcases f.tight i hi with t | ⟨j, _, hc, t⟩
  · exact .inl t
  · refine .inr ?_
    rcases hc with hc | hc
    · refine ⟨_, hc, ?_⟩
      unfold hitB
      simp only [Int.toNat_natCast]
      simp [t]
    · refine ⟨_, hc, ?_⟩
      unfold hitB
      simp only [Int.toNat_natCast]
      simp [t]
end Go.Sx
