/- Layer 14: a net's web: the loop. Conditions: none. -/
import Derived.Test.YtbgfmfgffooniaaC6
namespace Go.Sx
open Go.Proofs
def famCells (N : Nat) (J : Nat → Option Addr × Nat) (ct : Nat → List Nat) (off : Nat) : List Value := (List.range N).map fun v => .slice (J (off + v)).1 (ct (off + v)).length (J (off + v)).2
def webL (N n ca : Nat) (arcs : List Arc) (Aa : Option Addr) (gi go : Addr) (k : Nat) (J : Nat → Option Addr × Nat) : List LE :=
  [.own [.v (.slice none 0 0), .v (.slice none 0 0), .v (.slice none 0 0)] 54, .own [.v (.slice Aa n ca), .v (.slice (some gi) N N), .v (.slice (some go) N N)] 54, .row 39 5 Aa n ca (arcs.map Arc.cells).flatten,
    .row 40 1 (some gi) N N (famCells N J (part arcs N k) 0), .row 40 1 (some go) N N (famCells N J (part arcs N k) N)]
theorem famCells_set {N : Nat} {J J' : Nat → Option Addr × Nat} {ct ct' : Nat → List Nat} {off d : Nat} (h : ∀ v, v < N → v ≠ d → J' (off + v) = J (off + v) ∧ ct' (off + v) = ct (off + v)) : famCells N J' ct' off = (famCells N J ct off).set d (.slice (J' (off + d)).1 (ct' (off + d)).length (J' (off + d)).2) := by
  apply List.ext_getElem
  · simp [famCells]
  · intro v h1 h2
    have hv : v < N := by simpa [famCells] using h1
    rw [List.getElem_set]
    split
    · rename_i e; subst e; simp [famCells]
    · rename_i e
      obtain ⟨q1, q2⟩ := h v hv (Ne.symm e)
      simp [famCells, q1, q2]
def webL0 (N n ca : Nat) (arcs : List Arc) (Aa : Option Addr) (gi go : Addr) : List LE :=
  [.own [.v (.slice none 0 0), .v (.slice none 0 0), .v (.slice none 0 0)] 54, .own [.v (.slice Aa n ca), .v (.slice (some gi) N N), .v (.slice (some go) N N)] 54, .row 39 5 Aa n ca (arcs.map Arc.cells).flatten,
    .row 40 1 (some gi) N N (List.replicate N (.slice none 0 0)), .row 40 1 (some go) N N (List.replicate N (.slice none 0 0))]
theorem famCells_zero (N : Nat) (arcs : List Arc) (off : Nat) : famCells N (fun _ => (none, 0)) (part arcs N 0) off = List.replicate N (.slice none 0 0) := by
  apply List.ext_getElem
  · simp [famCells]
  · intro v h1 h2
    simp [famCells, part_zero]
theorem webL_zero (N n ca : Nat) (arcs : List Arc) (Aa : Option Addr) (gi go : Addr) : webL N n ca arcs Aa gi go 0 (fun _ => (none, 0)) = webL0 N n ca arcs Aa gi go := by
  rw [webL, famCells_zero, famCells_zero]; rfl
theorem weaveLoop (Q : Post) (e : Env) (L : List LE) (h : Hp) (perm : List Nat) (N n ca : Nat) (arcs : List Arc) (Aa : Option Addr) (gi go : Addr) (hs : chk N arcs = 0) (hn : arcs.length = n) (hA : n ≠ 0 → ∃ g, Aa = some g)
    (he : [2, 3, 18, 19, 20].map e = ([.p 0 0, .p 1 0, .v (.slice Aa n ca), .v (iv n), .v (iv (0 : Nat))] : List SV).map (renS perm)) (hd : diffB perm = true) (hL : pickL L perm = some ((webL0 N n ca arcs Aa gi go).map (renLE perm)))
    (hQ : ∀ e J h', Fam h h' (fun v => v < 2 * N) J (part arcs N n) → e 2 = .p 0 0 → e 3 = .p 1 0 → Q (.exit 0) e (webL N n ca arcs Aa gi go n J) h') :
    EvLoop (fun Q e L h => wpIR Try.prog 55 ir23_l1 Q e L h) Q e L h := by
  rw [← webL_zero] at hL
  refine .mkS perm (Nat × (Nat → Option Addr × Nat)) [2, 3, 18, 19, 20] (fun (k, _) => [.p 0 0, .p 1 0, .v (.slice Aa n ca), .v (iv n), .v (iv k)]) (fun (k, J) => webL N n ca arcs Aa gi go k J)
    (fun (k, J) h' => Fam h h' (fun v => v < 2 * N) J (part arcs N k) ∧ k ≤ n) (fun (k, _) => n - k) (0, fun _ => (none, 0)) (fun (_, _) => rfl) ⟨?_, Nat.zero_le _⟩ he hd hL ?_
  · have := Fam.zero h (fun v => v < 2 * N)
    rw [show (fun _ => ([] : List Nat)) = part arcs N 0 from funext fun v => (part_zero arcs N v).symm] at this
    exact this
  rintro ⟨k, J⟩ e h' ⟨hf, hk⟩
  by_cases hkn : k < n
  · have hi : k < arcs.length := by omega
    have hb := okArc_zero ((chk_zero hs).2.2.2 _ (List.getElem_mem hi))
    obtain ⟨d, hd⟩ : ∃ d : Nat, arcs[k].dst = d := ⟨arcs[k].dst.toNat, by omega⟩
    obtain ⟨s, hs'⟩ : ∃ s : Nat, arcs[k].src = s := ⟨arcs[k].src.toNat, by omega⟩
    have hdN : d < N := by omega
    have hsN : s < N := by omega
    have hf1 := hf.del (v := d) (by omega)
    have hf2 := hf1.del (v := N + s) ⟨by omega, by omega⟩
    refine .abs 3 1 (J d).1 (part arcs N k d).length (J d).2 _ (hf.row d (by omega)) (.abs 3 1 (J (N + s)).1 (part arcs N k (N + s)).length (J (N + s)).2 _ (hf1.row (N + s) ⟨by omega, by omega⟩) (.done ?_))
    obtain ⟨g, rfl⟩ := hA (by omega)
    conv => whnf
    refine br_dec (fun h1 => ?_) (fun h1 => by omega)
    conv => whnf
    refine .mk g rfl (by omega) (by omega) ?_
    conv => whnf
    refine .row 2 39 5 g n ca _ (k * 5) arcs[k].cells rfl (by rw [Int.toNat_natCast]) rfl (fun q v hv => flat_at _ (arcs_wid _) k q _ v (map_get hi) hv) ?_
    conv => whnf
    refine .mk gi rfl (by omega) (by omega) ?_
    have hfc : ∀ (off v : Nat), v < N → (famCells N J (part arcs N k) off)[v]? = some (.slice (J (off + v)).1 (part arcs N k (off + v)).length (J (off + v)).2) := fun off v hv => by simp [famCells, hv]
    conv => whnf
    refine .row 3 40 1 gi N N _ (d * 1) _ rfl (by rw [hd, Int.toNat_natCast]) (by rw [Nat.mul_one, hfc 0 d hdN]) ?_
    rw [Nat.zero_add]
    have hn96 := (chk_zero hs).2.2.1
    have hpl : ∀ v, (part arcs N k v).length ≤ k := fun v => by
      unfold part
      split
      · exact Nat.le_trans (List.length_filter_le _ _) (by simp)
      · exact Nat.le_trans (List.length_filter_le _ _) (by simp)
    have hpl1 := hpl d
    have hpl2 := hpl (N + s)
    conv => whnf
    refine .old 5 _ _ rfl rfl (nums_one [(k : Int)]) (by simp [maxLen]; omega) (by omega) fun A2 c2 _ => ?_
    conv => whnf
    refine .mk gi rfl (by omega) (by omega) ?_
    have hfl : ∀ off, (famCells N J (part arcs N k) off).length = N := fun off => by simp [famCells]
    conv => whnf
    refine .row 3 40 1 gi N N _ _ d rfl (by rw [hd, Int.toNat_natCast, Nat.mul_one]) (over_one _ _ _ (by rw [hfl]; exact hdN)) ?_
    conv => whnf
    refine .mk go rfl (by omega) (by omega) ?_
    conv => whnf
    refine .row 4 40 1 go N N _ (s * 1) _ rfl (by rw [hs', Int.toNat_natCast]) (by rw [Nat.mul_one, hfc N s hsN]) ?_
    conv => whnf
    refine .old 6 _ _ rfl rfl (nums_one [(k : Int)]) (by simp [maxLen]; omega) (by omega) fun A3 c3 _ => ?_
    conv => whnf
    refine .mk go rfl (by omega) (by omega) ?_
    conv => whnf
    refine .row 4 40 1 go N N _ _ s rfl (by rw [hs', Int.toNat_natCast, Nat.mul_one]) (over_one _ _ _ (by rw [hfl]; exact hsN)) ?_
    conv => whnf
    refine .ok (by omega) (by omega) ?_
    conv => whnf
    have hfl1 : ∀ v, ((idxRows (part arcs N k v)).flatten ++ [iv (k : Int)]) = (idxRows (part arcs N k v ++ [k])).flatten := fun v => by simp [idxRows]
    refine .pub 5 3 1 A2 ((part arcs N k d).length + 1) c2 _ rfl fun h1' hle1 hr1 hn1 => .pub 6 3 1 A3 ((part arcs N k (N + s)).length + 1) c3 _ rfl fun h2' hle2 hr2 hn2 => .done ?_
    have hr1 : RowAt h1' 3 1 A2 ((part arcs N k d).length + 1) c2 ((idxRows (part arcs N k d)).flatten ++ [iv (k : Int)]) := hr1
    have hr2 : RowAt h2' 3 1 A3 ((part arcs N k (N + s)).length + 1) c3 ((idxRows (part arcs N k (N + s))).flatten ++ [iv (k : Int)]) := hr2
    rw [hfl1] at hr1 hr2
    have hstep : part arcs N (k + 1) = updJ (updJ (part arcs N k) d (part arcs N k d ++ [k])) (N + s) (part arcs N k (N + s) ++ [k]) := funext (part_step hi hd hs' hdN)
    have g1 := hf2.add (v := d) (cap := c2) (A := A2) (l := part arcs N k d ++ [k]) (by omega) hle1 (by simpa using hr1) hn1
    have g2 := g1.add (v := N + s) (cap := c3) (A := A3) (l := part arcs N k (N + s) ++ [k]) (by omega) hle2 (by simpa using hr2) hn2
    rw [← hstep] at g2
    refine ⟨(k + 1, updJ (updJ J d (A2, c2)) (N + s) (A3, c3)), rfl, ?_, ⟨g2.same fun v hv => by omega, hkn⟩, by show n - (k + 1) < n - k; omega⟩
    have e1 : famCells N (updJ (updJ J d (A2, c2)) (N + s) (A3, c3)) (part arcs N (k + 1)) 0 = (famCells N J (part arcs N k) 0).set d (.slice A2 ((part arcs N k d).length + 1) c2) := by
      rw [famCells_set (J := J) (ct := part arcs N k) (d := d) (fun v hv hne => ⟨by simp only [updJ]; rw [if_neg (by omega), if_neg (by omega)], by rw [hstep]; simp only [updJ]; rw [if_neg (by omega), if_neg (by omega)]⟩)]
      rw [hstep]
      simp only [updJ]
      rw [if_neg (by omega), if_pos (by omega), if_neg (by omega), if_pos (by omega)]
      simp
    have e2 : famCells N (updJ (updJ J d (A2, c2)) (N + s) (A3, c3)) (part arcs N (k + 1)) N = (famCells N J (part arcs N k) N).set s (.slice A3 ((part arcs N k (N + s)).length + 1) c3) := by
      rw [famCells_set (J := J) (ct := part arcs N k) (d := s) (fun v hv hne => ⟨by simp only [updJ]; rw [if_neg (by omega), if_neg (by omega)], by rw [hstep]; simp only [updJ]; rw [if_neg (by omega), if_neg (by omega)]⟩)]
      rw [hstep]
      simp only [updJ, if_true]
      simp
    show _ = webL N n ca arcs (some g) gi go (k + 1) (updJ (updJ J d (A2, c2)) (N + s) (A3, c3))
    rw [webL, e1, e2]
    rfl
  · have : k = n := by omega
    subst this
    refine .done ?_
    conv => whnf
    refine br_dec (fun h1 => ?_) (fun h1 => ?_)
    · omega
    · conv => whnf
      exact hQ _ J h' hf rfl rfl
end Go.Sx
