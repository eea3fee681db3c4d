/- The library's sort, upon a partial heap: it returns the row's elements in order. Conditions: none. -/
import Derived.Test.YthibgmkobcbhhaaGreatS19L
import Derived.Test.YthibgmkobcbhhaaGreatS19C
import Derived.Test.YthibgmkobcbhhaaGreatN19L
import Derived.Shelf.SlSortCmp.NoneTotal
namespace Go.Sx
open Go.Proofs Go.Shelf Go.Sort
def pc (x : Int × Int) : List Value := [iv x.1, iv x.2]
theorem pc_len : ∀ xs : List (Int × Int), (xs.map pc).flatten.length = xs.length * 2
  | [] => rfl
  | x :: xs => by simp only [List.map_cons, List.flatten_cons, List.length_append, pc_len xs, List.length_cons]; show 2 + _ = _; omega
theorem pc_get : ∀ (xs : List (Int × Int)) (j : Nat), j < xs.length * 2 → (xs.map pc).flatten[j]? = some ((encP xs.toArray[j / 2]!)[j % 2]!)
  | [], j, h => by simp at h
  | x :: xs, 0, _ => rfl
  | x :: xs, 1, _ => rfl
  | x :: xs, j + 2, h => by
    have ih := pc_get xs j (by simp only [List.length_cons] at h; omega)
    have e1 : (j + 2) / 2 = j / 2 + 1 := by omega
    have e2 : (j + 2) % 2 = j % 2 := by omega
    have e3 : (x :: xs).toArray[j / 2 + 1]! = xs.toArray[j / 2]! := by simp [getElem!_def]
    have e4 : ((x :: xs).map pc).flatten[j + 2]? = (xs.map pc).flatten[j]? := rfl
    rw [e1, e2, e3, e4, ih]
theorem flatK_list (d : Array (Int × Int)) : (flatK encP 2 d).toList = (d.toList.map pc).flatten := by
  apply List.ext_getElem?
  intro j
  by_cases h : j < d.size * 2
  · rw [pc_get _ _ (by simpa using h)]
    have hs : j < (flatK encP 2 d).size := by simpa using h
    have h1 := get_flatK encP 2 d j h
    rw [getElem!_pos _ j hs] at h1
    rw [Array.getElem?_toList, Array.getElem?_eq_getElem hs, h1]
  · rw [List.getElem?_eq_none (by simpa using h), List.getElem?_eq_none (by rw [pc_len]; simpa using h)]
theorem putCells_take (F cur : Array Value) (hF : F.size ≤ cur.size) : (putCells id 0 F cur).size = cur.size ∧ (putCells id 0 F cur).toList.take F.size = F.toList := by
  refine ⟨by simp [putCells], ?_⟩
  apply List.ext_getElem?
  intro j
  rw [List.getElem?_take]
  by_cases h : j < F.size
  · rw [if_pos h, Array.getElem?_toList, Array.getElem?_toList]
    simp only [putCells, Array.getElem?_mapIdx, Nat.zero_le, true_and, Nat.zero_add, h, if_true, Nat.sub_zero]
    rw [Array.getElem?_eq_getElem (by omega), Array.getElem?_eq_getElem h, getElem!_pos F j h]
    rfl
  · rw [if_neg h, List.getElem?_eq_none (by simpa using h)]
/-- what a sort leaves -/
structure Sorted (lt : Int × Int → Int × Int → Bool) (xs ys : List (Int × Int)) : Prop where
  perm : ys.Perm xs
  ord : ys.Pairwise fun a b => lt b a = false
structure SortQ (h : Hp) (ety : Nat) (A : Option Addr) (n cap : Nat) (lt : Int × Int → Int × Int → Bool) (xs : List (Int × Int)) (v : Value) (h' : Hp) (ys : List (Int × Int)) : Prop where
  ret : v = .tuple #[]
  srt : Sorted lt xs ys
  row : RowAt h' ety 2 A n cap (ys.map pc).flatten
  same : ∀ j, (∀ g, A = some g → j ≠ g.block) → h' j = h j
theorem ext_refl {h : Hp} {w : World} (hw : HW h w) : Ext h w h w := ⟨hw, rfl, rfl, rfl, Nat.le_refl _, fun _ _ _ => rfl, fun _ hj => .inl hj⟩
theorem sort_fn {ρ : Ren} (L : SlLaysF0.n6 Tryz.prog ρ) (ety g : Nat) (ht : ρ.t 24 = ety) (aE : ∀ w, (isAgg ety).run Tryz.prog w = .ok true w) (zE : ∀ w, (Go.sizeOf ety).run Tryz.prog w = .ok 2 w)
    (hb : ∃ fn, Tryz.prog.funcs[ρ.f 6]? = some fn ∧ fn.body.isSome = true ∧ (fn.name == "runtime.NumGoroutine") = false) (cf : Int × Int → Int × Int → Int) (hO : SWO (ltOf cf))
    (eg : ∀ args w, (callFunc g args).run Tryz.prog w = .ok (.enter g args) w)
    (hc : ∀ (x y : Int × Int) (W : World), Calls Tryz.prog g #[.agg #[.int .i64 x.1, .int .i64 x.2], .agg #[.int .i64 y.1, .int .i64 y.2]] W fun e w' => e = .returned (.int .i64 (cf x y)) ∧ ∃ q os', w' = grow (W.drewN q) os')
    (A : Option Addr) (n cap : Nat) (xs : List (Int × Int)) (h : Hp) (hr : RowAt h ety 2 A n cap (xs.map pc).flatten) (hbig : n < 4611686018427387904) :
    Fn Tryz.prog (ρ.f 6) #[.slice A n cap, .func (.func g) #[] #[]] h fun v h' => ∃ ys, SortQ h ety A n cap (ltOf cf) xs v h' ys := by
  subst ht
  have hn : xs.length = n := by have := hr.1; rw [pc_len] at this; omega
  refine ⟨hb, fun w hw => ?_⟩
  rcases hr.2 with ⟨rfl, rfl, rfl⟩ | ⟨b, cur, rfl, hcur, hnc, hcm, hcs, htk⟩
  · obtain rfl : xs = [] := List.eq_nil_of_length_eq_zero hn
    refine (AnyF.slices_SortFunc_none L none 0 _ w).mono ?_
    rintro e w' ⟨rfl, rfl⟩
    exact ⟨_, h, rfl, ⟨[], rfl, ⟨.refl _, .nil⟩, hr, fun _ _ => rfl⟩, ext_refl hw⟩
  · have hbw := hw _ _ hcur
    have hlt : b < w.heap.size := (Array.getElem?_eq_some_iff.1 hbw).1
    have hH : HoldsK encP 2 w b 0 xs.toArray := by
      intro j hj
      have hj : j < xs.length * 2 := by simpa using hj
      have h1 := pc_get xs j hj
      rw [← htk, List.getElem?_take, if_pos (by omega)] at h1
      have h2 := get_flatK encP 2 xs.toArray j (by simpa using hj)
      rw [h2]
      refine ⟨?_, ?_⟩
      · unfold World.cell?
        simp only [hbw]
        simp only [Option.isSome_none, Bool.false_eq_true, if_false, Nat.zero_add]
        rw [← Array.getElem?_toList, h1]; rfl
      · unfold World.frozen?
        simp only [hbw]
        simp
    have hcmp : CmpLays Tryz.prog g #[] encP 2 cf b 0 xs.toArray.size w := fun _ _ _ _ x y => hc x y _
    have hsz : xs.toArray.size < 4611686018427387904 := by simpa [hn] using hbig
    have hcon := AnyQ.slices_SortFunc L 2 aE zE encP (fun _ => rfl) (fun x v hv => by simp [encP] at hv; rcases hv with rfl | rfl <;> rfl) cf hO g #[] b 0 cap xs.toArray w eg hcmp hH hlt hsz
    have es : xs.toArray.size = n := by simpa using hn
    rw [es] at hcon
    refine hcon.mono ?_
    rintro e w' ⟨rfl, d', nd, os, hp, hs, rfl⟩
    have hd' : d'.size = n := by rw [hp.1]; exact es
    have hF : (flatK encP 2 d').size = n * 2 := by simp [hd']
    obtain ⟨p1, p2⟩ := putCells_take (flatK encP 2 d') cur (by rw [hF, hcs]; omega)
    rw [hF, flatK_list] at p2
    have hw' : ∀ j, (sortWorldK encP 2 w b 0 nd d' os).heap[j]? = if j < w.heap.size then (if j = b then some (.cells (putCells id 0 (flatK encP 2 d') cur) (ρ.t 24) (0, 0)) else w.heap[j]?) else os[j - w.heap.size]? := by
      intro j
      show ((w.heap.modify b (onCells (putCells id 0 (flatK encP 2 d')))) ++ os)[j]? = _
      rw [Array.getElem?_append, Array.size_modify]
      split
      · rw [Array.getElem?_modify]
        by_cases hj : b = j
        · subst hj; rw [if_pos rfl, if_pos rfl, hbw]; rfl
        · rw [if_neg hj, if_neg (Ne.symm hj)]
      · rfl
    refine ⟨_, h.put b (.cells (putCells id 0 (flatK encP 2 d') cur) (ρ.t 24) (0, 0)), rfl, ⟨d'.toList, rfl, ⟨?_, ?_⟩, ?_, fun j hj => ?_⟩, ?_⟩
    · have := hp.2.2
      have e1 : d'.extract 0 n = d' := by rw [← hd']; simp
      have e2 : xs.toArray.extract 0 n = xs.toArray := by rw [← es]; simp
      rw [e1, e2] at this
      simpa using this
    · rw [List.pairwise_iff_getElem]
      intro i j hi hj hij
      have hi : i < d'.size := by simpa using hi
      have hj : j < d'.size := by simpa using hj
      have := hs i j (Nat.zero_le _) hij (by omega)
      rw [getElem!_pos d' i hi, getElem!_pos d' j hj] at this
      simpa using this
    · refine ⟨by rw [pc_len]; simp [hd'], .inr ⟨b, _, rfl, Hp.put_same _ _ _, hnc, hcm, by rw [p1, hcs], p2⟩⟩
    · exact Hp.put_ne _ _ (hj _ rfl)
    · refine ⟨fun j o hj => ?_, rfl, rfl, rfl, ?_, fun j hj hn => ?_, fun j hj => ?_⟩
      · rw [hw']
        by_cases e : j = b
        · subst e; rw [Hp.put_same] at hj; injection hj with hj; subst hj; rw [if_pos hlt, if_pos rfl]
        · rw [Hp.put_ne _ _ e] at hj
          have h1 := hw _ _ hj
          rw [if_pos (Array.getElem?_eq_some_iff.1 h1).1, if_neg e]; exact h1
      · show _ ≤ ((w.heap.modify b _) ++ os).size
        rw [Array.size_append, Array.size_modify]; omega
      · rw [hw', if_pos hj, if_neg (fun e => by subst e; rw [hcur] at hn; cases hn)]
      · by_cases e : j = b
        · subst e; exact .inl (by rw [hcur]; simp)
        · rw [Hp.put_ne _ _ e] at hj; exact .inl hj
theorem sort26 (A : Option Addr) (n cap : Nat) (xs : List (Int × Int)) (h : Hp) (hr : RowAt h 73 2 A n cap (xs.map pc).flatten) (hbig : n < 4611686018427387904) :
    Fn Tryz.prog 46 #[.slice A n cap, .func (.func 47) #[] #[]] h fun v h' => ∃ ys, SortQ h 73 A n cap (ltOf cfP) xs v h' ys :=
  sort_fn Tryz.sortPair 73 47 rfl Tryz.isAgg73 Tryz.sizeOf73 ⟨Tryz.f46, Tryz.func46, by kernel_rfl, by kernel_rfl⟩ cfP swoP (enters_of Tryz.func47 (by kernel_rfl) rfl) closure27 A n cap xs h hr hbig
theorem sort39 (A : Option Addr) (n cap : Nat) (xs : List (Int × Int)) (h : Hp) (hr : RowAt h 37 2 A n cap (xs.map pc).flatten) (hbig : n < 4611686018427387904) :
    Fn Tryz.prog 21 #[.slice A n cap, .func (.func 22) #[] #[]] h fun v h' => ∃ ys, SortQ h 37 A n cap (ltOf cfB) xs v h' ys :=
  sort_fn Tryz.sortReg 37 22 rfl Tryz.isAgg37 Tryz.sizeOf37 ⟨Tryz.f21, Tryz.func21, by kernel_rfl, by kernel_rfl⟩ cfB swoB (enters_of Tryz.func22 (by kernel_rfl) rfl) closure40 A n cap xs h hr hbig
end Go.Sx
