/- The arguments of layer 17's laws, opened. Conditions: none. -/
import Derived.Test.YtndkgmgkbedepaaM17T
import Derived.Test.YtndkgmgkbedepaaE2
import Derived.Test.YtndkgmgkbedepaaRows
namespace Go.Proofs.Ytndkgmgkbedepaa
open Go.Sx Go.RowKit Go.ChangeShapes Go.WideShapes
theorem Try.own : ownKnob Try.prog.godebug = none := by kernel_rfl
theorem Try.laidOut : laidOutB Try.prog = true := by kernel_rfl
def mkRz (z : Nat → Int) : Rz := (z 0, z 1)
theorem mkRz_at (z : Nat → Int) (j : Nat) (u : Value) (h : (zcell (mkRz z))[j]? = some u) : u = iv (z j) := by
  match j, h with
  | 0, h => injection h with h; exact h.symm
  | 1, h => injection h with h; exact h.symm
  | j + 2, h => cases h
theorem bytes3 : Try.prog.bytesOf 3 = 8 := by kernel_rfl
section
variable {H : Type} {enc : TypeId × Value → H}
theorem open_nest_ {P : Program} {W : World} {spare : Nat → Bool} {held : Bool} {t e tz : Nat} {f0 f1 f2 : Field} (ht : P.underlying t = some (.slice e)) (he : P.underlying e = some (.struct #[f0, f1, f2])) (hone : Deep.oneCellFields P #[f0, f1, f2] = true) (hC : P.cellsOf e = 3)
    (h0 : f0.type = tz) (h1 : f1.type = tz) (h2 : f2.type = t) (hz : P.underlying tz = some (.int .i64)) : ∀ (fuel : Nat) (v : Value) (x : DataW H × List MemPlace), DataW.trod enc P W 0 spare held fuel t [v] = some x →
    ∃ (A : Option Addr) (n cap : Nat) (l : Lo), v = .slice A n cap ∧ SAt (Hp.of W) A n l ∧ n ≤ cap := by
  intro fuel
  induction fuel using Nat.strongRecOn with
  | ind fuel ih =>
    intro v x h
    rcases DataW.trod_slice ht h with ⟨q0, q1⟩ | ⟨a, len, cap, elems, rest, n, rfl, hcs, rfl, hb, hl, hm, hlen, hel, _⟩
    · injection q0 with q0
      exact ⟨none, 0, 0, .nil, q0, ⟨rfl, .inl rfl⟩, Nat.le_refl _⟩
    · injection hcs with hcs
      have each : ∀ i, i < len → ∃ (z w : Int) (B : Option Addr) (m c : Nat) (b : Lo), (∀ j u, (lcells z w B m c)[j]? = some u → (Hp.of W).cell? ((a.add (i * 3)).add j) = some u) ∧ SAt (Hp.of W) B m b := fun i hi => by
        have hk := hel i hi
        rw [List.getElem?_eq_getElem (by omega), hC] at hk
        obtain ⟨cs', hc, ht'⟩ := Option.bind_eq_some_iff.1 hk
        obtain ⟨ys, n', hn', hy, hcl', hyl, hf⟩ := DataW.trod_struct he ht'
        obtain ⟨_, hcl, hat⟩ := World.cells?_some hc
        have part : ∀ j (hj : j < 3) (f : Field), (#[f0, f1, f2] : Array Field)[j]? = some f → ∃ y, DataW.trod enc P W 0 spare held n' f.type [cs'[j]'(by omega)] = some y ∧ W.cell? ((a.add (i * 3)).add j) = some (cs'[j]'(by omega)) := fun j hj f hff => by
          obtain ⟨ho, hk⟩ := Deep.hone_of hone j f hff
          have h1 := hf j f hff
          rw [ho, hk] at h1
          have hone' : (cs'.drop j).take 1 = [cs'[j]'(by omega)] := by
            rw [List.drop_eq_getElem_cons (by omega)]
            rfl
          rw [hone'] at h1
          obtain ⟨y, hy'⟩ : ∃ y, ys[j]? = some y := ⟨_, List.getElem?_eq_getElem (by simp at hyl; omega)⟩
          rw [hy'] at h1
          have := hat j (by omega)
          refine ⟨y, h1, ?_⟩
          rw [this]
          simp
        obtain ⟨y0, p0, k0⟩ := part 0 (by decide) f0 rfl
        obtain ⟨y1, p1, k1⟩ := part 1 (by decide) f1 rfl
        obtain ⟨y2, p2, k2⟩ := part 2 (by decide) f2 rfl
        rw [h0] at p0
        rw [h1] at p1
        rw [h2] at p2
        obtain ⟨z, e0, _⟩ := DataW.trod_int hz p0
        obtain ⟨w, e1, _⟩ := DataW.trod_int hz p1
        obtain ⟨B, m, c, b, e2, hs, _⟩ := ih n' (by omega) _ y2 p2
        injection e0 with e0
        injection e1 with e1
        rw [e0] at k0
        rw [e1] at k1
        rw [e2] at k2
        refine ⟨z, w, B, m, c, b, fun j u hu => ?_, hs⟩
        match j, hu with
        | 0, hu => injection hu with hu; subst hu; exact of_cell k0
        | 1, hu => injection hu with hu; subst hu; exact of_cell k1
        | 2, hu => injection hu with hu; subst hu; exact of_cell k2
        | j + 3, hu => cases hu
      have all : ∀ k, k ≤ len → ∃ l : Lo, l.len = k ∧ At (Hp.of W) a (len - k) l := by
        intro k
        induction k with
        | zero => exact fun _ => ⟨.nil, rfl, trivial⟩
        | succ k ihk =>
          intro hk
          obtain ⟨l, q1, q2⟩ := ihk (by omega)
          obtain ⟨z, w, B, m, c, b, r1, r2⟩ := each (len - (k + 1)) (by omega)
          exact ⟨.cons z w B m c b l, by simp [Lo.len, q1], r1, r2.1, r2.2, by rw [show len - (k + 1) + 1 = len - k by omega]; exact q2⟩
      obtain ⟨l, q1, q2⟩ := all len (Nat.le_refl _)
      rw [Nat.sub_self] at q2
      exact ⟨some a, len, cap, l, hcs, ⟨q1.symm, .inr ⟨a, rfl, q2⟩⟩, hl⟩
theorem open_nest {W : World} {v : Value} {d : DataW H} {p : List MemPlace} {r : Reach} {b0 : Nat} (hv : Value.okWide Try.prog W r b0 22 v) (h : DataW.Trod enc Try.prog W 0 (fun _ => true) true 22 v d p) :
    ∃ (A : Option Addr) (n cap : Nat) (l : Lo), v = .slice A n cap ∧ SAt (Hp.of W) A n l ∧ n ≤ cap := by
  obtain ⟨fuel, h⟩ := h
  obtain ⟨a, n, cap, rfl⟩ := okWide_slice Try.underlying22 hv
  exact open_nest_ Try.underlying22 Try.underlying41 (by kernel_rfl) (by kernel_rfl) rfl rfl rfl Try.underlying3 fuel _ (d, p) h
theorem open_nums {W : World} {v : Value} {d : DataW H} {p : List MemPlace} {r : Reach} {b0 : Nat} (hv : Value.okWide Try.prog W r b0 32 v) (h : DataW.Trod enc Try.prog W 0 (fun _ => true) true 32 v d p) :
    ∃ (A : Option Addr) (n cap : Nat) (l : List Int), v = .slice A n cap ∧ Tab (Hp.of W) 1 A n (l.map fun z => [iv z]) ∧ n ≤ cap ∧ ∀ B, (∀ k ∈ d.weights Try.prog 32, k ≤ B) → n * 8 ≤ B := by
  obtain ⟨fuel, h⟩ := h
  obtain ⟨a, n, cap, rfl⟩ := okWide_slice Try.underlying32 hv
  obtain ⟨A, n, cap, l, h1, h2, h3, el, sp, h4⟩ := open_nums_ Try.underlying32 Try.underlying3 (by kernel_rfl) (x := (d, p)) h
  refine ⟨A, n, cap, l, h1, h2, h3, fun B hB => ?_⟩
  rcases h4 with ⟨h4, h5⟩ | ⟨h4, h5⟩
  · have h4 : d = .slice el sp := h4
    have := hB ((el.length + sp.length) * 8) (by rw [h4]; simp [DataW.weights, Try.underlying32, bytes3])
    exact Nat.le_trans (Nat.mul_le_mul_right 8 (by omega)) this
  · omega
theorem each_le {P : Program} {ts : List TypeId} {ds : List (DataW H)} {j : Nat} {t : TypeId} {d : DataW H} (h : (DataW.weightsEach P ts ds).all (fun k => decide (k ≤ reachBytes)) = true) (ht : ts[j]? = some t) (hd : ds[j]? = some d) : ∀ k ∈ d.weights P t, k ≤ 140737488355328 := fun k hk => by
  have := List.all_eq_true.1 h k (DataW.weights_mem_each ht hd k hk)
  have := of_decide_eq_true this
  simp only [reachBytes] at this
  omega
end
end Go.Proofs.Ytndkgmgkbedepaa
