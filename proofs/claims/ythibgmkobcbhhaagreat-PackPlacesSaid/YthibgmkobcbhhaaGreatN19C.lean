/- Layer 19: a net's functions. Conditions: none. -/
import Derived.Test.YthibgmkobcbhhaaGreatN19B
namespace Go.Sx
open Go.Proofs
set_option maxRecDepth 100000
theorem flat_nums : ∀ (l : List Int), (l.map fun z => [iv z]).flatten = l.map iv
  | [] => rfl
  | x :: l => by rw [List.map_cons, List.flatten_cons, flat_nums l]; rfl
theorem nums_one (l : List Int) : ∀ u ∈ l.map iv, u.oneCell' = true := by
  intro u hu
  obtain ⟨z, _, rfl⟩ := List.mem_map.1 hu
  rfl
theorem tab_nums {h : Hp} {g : Nat} {l : List Int} (hb : h g = some (numCells l)) : Tab h 1 (some ⟨g, 0, none⟩) l.length (l.map fun z => [iv z]) :=
  Tab.lit hb (flat_nums l) (ints_wid l) (by simp)
def famCells (N : Nat) (J : Nat → Option Addr × Nat) (ct : Nat → List Nat) (off : Nat) : List Value := (List.range N).map fun v => .slice (J (off + v)).1 (ct (off + v)).length (J (off + v)).2
def webL (N n ca : Nat) (arcs : List Arc) (Aa : Option Addr) (gi go : Addr) (k : Nat) (J : Nat → Option Addr × Nat) : List LE :=
  [.own [.v (.slice none 0 0), .v (.slice none 0 0), .v (.slice none 0 0)] 139, .own [.v (.slice Aa n ca), .v (.slice (some gi) N N), .v (.slice (some go) N N)] 139, .row 47 5 Aa n ca (arcs.map Arc.cells).flatten,
    .row 25 1 (some gi) N N (famCells N J (part arcs N k) 0), .row 25 1 (some go) N N (famCells N J (part arcs N k) N)]
theorem famCells_set {N : Nat} {J J' : Nat → Option Addr × Nat} {ct ct' : Nat → List Nat} {off d : Nat} (h : ∀ v, v < N → v ≠ d → J' (off + v) = J (off + v) ∧ ct' (off + v) = ct (off + v)) : famCells N J' ct' off = (famCells N J ct off).set d (.slice (J' (off + d)).1 (ct' (off + d)).length (J' (off + d)).2) := by
  apply List.ext_getElem
  · simp [famCells]
  · intro v h1 h2
    have hv : v < N := by simpa [famCells] using h1
    rw [List.getElem_set]
    split
    · rename_i e; subst e; simp [famCells]
    · rename_i e
      obtain ⟨q1, q2⟩ := h v hv (Ne.symm e)
      simp [famCells, q1, q2]
def webL0 (N n ca : Nat) (arcs : List Arc) (Aa : Option Addr) (gi go : Addr) : List LE :=
  [.own [.v (.slice none 0 0), .v (.slice none 0 0), .v (.slice none 0 0)] 139, .own [.v (.slice Aa n ca), .v (.slice (some gi) N N), .v (.slice (some go) N N)] 139, .row 47 5 Aa n ca (arcs.map Arc.cells).flatten,
    .row 25 1 (some gi) N N (List.replicate N (.slice none 0 0)), .row 25 1 (some go) N N (List.replicate N (.slice none 0 0))]
theorem famCells_zero (N : Nat) (arcs : List Arc) (off : Nat) : famCells N (fun _ => (none, 0)) (part arcs N 0) off = List.replicate N (.slice none 0 0) := by
  apply List.ext_getElem
  · simp [famCells]
  · intro v h1 h2
    simp [famCells, part_zero]
theorem webL_zero (N n ca : Nat) (arcs : List Arc) (Aa : Option Addr) (gi go : Addr) : webL N n ca arcs Aa gi go 0 (fun _ => (none, 0)) = webL0 N n ca arcs Aa gi go := by
  rw [webL, famCells_zero, famCells_zero]; rfl
theorem weaveLoop (Q : Post) (e : Env) (L : List LE) (h : Hp) (perm : List Nat) (N n ca : Nat) (arcs : List Arc) (Aa : Option Addr) (gi go : Addr) (hs : chk N arcs = 0) (hn : arcs.length = n) (hA : n ≠ 0 → ∃ g, Aa = some g)
    (he : [2, 3, 18, 19, 20].map e = ([.p 0 0, .p 1 0, .v (.slice Aa n ca), .v (iv n), .v (iv (0 : Nat))] : List SV).map (renS perm)) (hd : diffB perm = true) (hL : pickL L perm = some ((webL0 N n ca arcs Aa gi go).map (renLE perm)))
    (hQ : ∀ e J h', Fam h h' (fun v => v < 2 * N) J (part arcs N n) → e 2 = .p 0 0 → e 3 = .p 1 0 → Q (.exit 0) e (webL N n ca arcs Aa gi go n J) h') :
    EvLoop (fun Q e L h => wpIR Tryz.prog 55 ir96_l1 Q e L h) Q e L h := by
  rw [← webL_zero] at hL
  refine .mkS perm (Nat × (Nat → Option Addr × Nat)) [2, 3, 18, 19, 20] (fun (k, _) => [.p 0 0, .p 1 0, .v (.slice Aa n ca), .v (iv n), .v (iv k)]) (fun (k, J) => webL N n ca arcs Aa gi go k J)
    (fun (k, J) h' => Fam h h' (fun v => v < 2 * N) J (part arcs N k) ∧ k ≤ n) (fun (k, _) => n - k) (0, fun _ => (none, 0)) (fun (_, _) => rfl) ⟨?_, Nat.zero_le _⟩ he hd hL ?_
  · have := Fam.zero h (fun v => v < 2 * N)
    rw [show (fun _ => ([] : List Nat)) = part arcs N 0 from funext fun v => (part_zero arcs N v).symm] at this
    exact this
  rintro ⟨k, J⟩ e h' ⟨hf, hk⟩
  by_cases hkn : k < n
  · have hi : k < arcs.length := by omega
    have hb := okArc_zero ((chk_zero hs).2.2.2 _ (List.getElem_mem hi))
    obtain ⟨d, hd⟩ : ∃ d : Nat, arcs[k].dst = d := ⟨arcs[k].dst.toNat, by omega⟩
    obtain ⟨s, hs'⟩ : ∃ s : Nat, arcs[k].src = s := ⟨arcs[k].src.toNat, by omega⟩
    have hdN : d < N := by omega
    have hsN : s < N := by omega
    have hf1 := hf.del (v := d) (by omega)
    have hf2 := hf1.del (v := N + s) ⟨by omega, by omega⟩
    refine .abs 3 1 (J d).1 (part arcs N k d).length (J d).2 _ (hf.row d (by omega)) (.abs 3 1 (J (N + s)).1 (part arcs N k (N + s)).length (J (N + s)).2 _ (hf1.row (N + s) ⟨by omega, by omega⟩) (.done ?_))
    obtain ⟨g, rfl⟩ := hA (by omega)
    conv => whnf
    refine br_dec (fun h1 => ?_) (fun h1 => by omega)
    conv => whnf
    refine .mk g rfl (by omega) (by omega) ?_
    conv => whnf
    refine .row 2 47 5 g n ca _ (k * 5) arcs[k].cells rfl (by rw [Int.toNat_natCast]) rfl (fun q v hv => flat_at _ (arcs_wid _) k q _ v (map_get hi) hv) ?_
    conv => whnf
    refine .mk gi rfl (by omega) (by omega) ?_
    have hfc : ∀ (off v : Nat), v < N → (famCells N J (part arcs N k) off)[v]? = some (.slice (J (off + v)).1 (part arcs N k (off + v)).length (J (off + v)).2) := fun off v hv => by simp [famCells, hv]
    conv => whnf
    refine .row 3 25 1 gi N N _ (d * 1) _ rfl (by rw [hd, Int.toNat_natCast]) (by rw [Nat.mul_one, hfc 0 d hdN]) ?_
    rw [Nat.zero_add]
    have hn96 := (chk_zero hs).2.2.1
    have hpl : ∀ v, (part arcs N k v).length ≤ k := fun v => by
      unfold part
      split
      · exact Nat.le_trans (List.length_filter_le _ _) (by simp)
      · exact Nat.le_trans (List.length_filter_le _ _) (by simp)
    have hpl1 := hpl d
    have hpl2 := hpl (N + s)
    conv => whnf
    refine .old 5 _ _ rfl rfl (nums_one [(k : Int)]) (by simp [maxLen]; omega) (by omega) fun A2 c2 _ => ?_
    conv => whnf
    refine .mk gi rfl (by omega) (by omega) ?_
    have hfl : ∀ off, (famCells N J (part arcs N k) off).length = N := fun off => by simp [famCells]
    conv => whnf
    refine .row 3 25 1 gi N N _ _ d rfl (by rw [hd, Int.toNat_natCast, Nat.mul_one]) (over_one _ _ _ (by rw [hfl]; exact hdN)) ?_
    conv => whnf
    refine .mk go rfl (by omega) (by omega) ?_
    conv => whnf
    refine .row 4 25 1 go N N _ (s * 1) _ rfl (by rw [hs', Int.toNat_natCast]) (by rw [Nat.mul_one, hfc N s hsN]) ?_
    conv => whnf
    refine .old 6 _ _ rfl rfl (nums_one [(k : Int)]) (by simp [maxLen]; omega) (by omega) fun A3 c3 _ => ?_
    conv => whnf
    refine .mk go rfl (by omega) (by omega) ?_
    conv => whnf
    refine .row 4 25 1 go N N _ _ s rfl (by rw [hs', Int.toNat_natCast, Nat.mul_one]) (over_one _ _ _ (by rw [hfl]; exact hsN)) ?_
    conv => whnf
    refine .ok (by omega) (by omega) ?_
    conv => whnf
    have hfl1 : ∀ v, ((idxRows (part arcs N k v)).flatten ++ [iv (k : Int)]) = (idxRows (part arcs N k v ++ [k])).flatten := fun v => by simp [idxRows]
    refine .pub 5 3 1 A2 ((part arcs N k d).length + 1) c2 _ rfl fun h1' hle1 hr1 hn1 => .pub 6 3 1 A3 ((part arcs N k (N + s)).length + 1) c3 _ rfl fun h2' hle2 hr2 hn2 => .done ?_
    have hr1 : RowAt h1' 3 1 A2 ((part arcs N k d).length + 1) c2 ((idxRows (part arcs N k d)).flatten ++ [iv (k : Int)]) := hr1
    have hr2 : RowAt h2' 3 1 A3 ((part arcs N k (N + s)).length + 1) c3 ((idxRows (part arcs N k (N + s))).flatten ++ [iv (k : Int)]) := hr2
    rw [hfl1] at hr1 hr2
    have hstep : part arcs N (k + 1) = updJ (updJ (part arcs N k) d (part arcs N k d ++ [k])) (N + s) (part arcs N k (N + s) ++ [k]) := funext (part_step hi hd hs' hdN)
    have g1 := hf2.add (v := d) (cap := c2) (A := A2) (l := part arcs N k d ++ [k]) (by omega) hle1 (by simpa using hr1) hn1
    have g2 := g1.add (v := N + s) (cap := c3) (A := A3) (l := part arcs N k (N + s) ++ [k]) (by omega) hle2 (by simpa using hr2) hn2
    rw [← hstep] at g2
    refine ⟨(k + 1, updJ (updJ J d (A2, c2)) (N + s) (A3, c3)), rfl, ?_, ⟨g2.same fun v hv => by omega, hkn⟩, by show n - (k + 1) < n - k; omega⟩
    have e1 : famCells N (updJ (updJ J d (A2, c2)) (N + s) (A3, c3)) (part arcs N (k + 1)) 0 = (famCells N J (part arcs N k) 0).set d (.slice A2 ((part arcs N k d).length + 1) c2) := by
      rw [famCells_set (J := J) (ct := part arcs N k) (d := d) (fun v hv hne => ⟨by simp only [updJ]; rw [if_neg (by omega), if_neg (by omega)], by rw [hstep]; simp only [updJ]; rw [if_neg (by omega), if_neg (by omega)]⟩)]
      rw [hstep]
      simp only [updJ]
      rw [if_neg (by omega), if_pos (by omega), if_neg (by omega), if_pos (by omega)]
      simp
    have e2 : famCells N (updJ (updJ J d (A2, c2)) (N + s) (A3, c3)) (part arcs N (k + 1)) N = (famCells N J (part arcs N k) N).set s (.slice A3 ((part arcs N k (N + s)).length + 1) c3) := by
      rw [famCells_set (J := J) (ct := part arcs N k) (d := s) (fun v hv hne => ⟨by simp only [updJ]; rw [if_neg (by omega), if_neg (by omega)], by rw [hstep]; simp only [updJ]; rw [if_neg (by omega), if_neg (by omega)]⟩)]
      rw [hstep]
      simp only [updJ, if_true]
      simp
    show _ = webL N n ca arcs (some g) gi go (k + 1) (updJ (updJ J d (A2, c2)) (N + s) (A3, c3))
    rw [webL, e1, e2]
    rfl
  · have : k = n := by omega
    subst this
    refine .done ?_
    conv => whnf
    refine br_dec (fun h1 => ?_) (fun h1 => ?_)
    · omega
    · conv => whnf
      exact hQ _ J h' hf rfl rfl
/-- What weave answers. -/
def WovenAt (h' : Hp) (N : Nat) (arcs : List Arc) (r : Value) : Prop :=
  ∃ Aa Ai Ao ca ci co I O, r = .agg #[.slice Aa arcs.length ca, .slice Ai N ci, .slice Ao N co] ∧ Tab h' 5 Aa arcs.length (arcs.map Arc.cells) ∧ Tab h' 1 Ai N (slcRows N (fun v => (ins arcs v).length) I) ∧
    Tab h' 1 Ao N (slcRows N (fun v => (outs arcs v).length) O) ∧ (∀ v, v < N → Tab h' 1 (I v).1 (ins arcs v).length (idxRows (ins arcs v))) ∧ ∀ v, v < N → Tab h' 1 (O v).1 (outs arcs v).length (idxRows (outs arcs v))
theorem famCells_in (N : Nat) (arcs : List Arc) (J : Nat → Option Addr × Nat) : famCells N J (part arcs N arcs.length) 0 = (slcRows N (fun v => (ins arcs v).length) J).flatten := by
  have : ∀ l : List Nat, (∀ v ∈ l, v < N) → l.map (fun v => Value.slice (J (0 + v)).1 (part arcs N arcs.length (0 + v)).length (J (0 + v)).2) = (l.map fun v => [Value.slice (J v).1 (ins arcs v).length (J v).2]).flatten := by
    intro l
    induction l with
    | nil => intro _; rfl
    | cons x l ih =>
      intro hl
      rw [List.map_cons, List.map_cons, List.flatten_cons, ih fun v hv => hl v (List.mem_cons_of_mem _ hv), Nat.zero_add, part_in (hl x (List.mem_cons_self ..))]
      rfl
  exact this _ fun v hv => List.mem_range.1 hv
theorem famCells_out (N : Nat) (arcs : List Arc) (J : Nat → Option Addr × Nat) : famCells N J (part arcs N arcs.length) N = (slcRows N (fun v => (outs arcs v).length) fun v => J (N + v)).flatten := by
  have : ∀ l : List Nat, l.map (fun v => Value.slice (J (N + v)).1 (part arcs N arcs.length (N + v)).length (J (N + v)).2) = (l.map fun v => [Value.slice (J (N + v)).1 (outs arcs v).length (J (N + v)).2]).flatten := by
    intro l
    induction l with
    | nil => rfl
    | cons x l ih => rw [List.map_cons, List.map_cons, List.flatten_cons, ih, part_out]; rfl
  exact this _
theorem slcRows_wid (N : Nat) (len : Nat → Nat) (I : Nat → Option Addr × Nat) : ∀ r ∈ slcRows N len I, r.length = 1 := by
  intro r hr
  obtain ⟨v, _, rfl⟩ := List.mem_map.1 hr
  rfl
theorem idxRows_wid (l : List Nat) : ∀ r ∈ idxRows l, r.length = 1 := by
  intro r hr
  obtain ⟨v, _, rfl⟩ := List.mem_map.1 hr
  rfl
theorem idxRows_len (l : List Nat) : (idxRows l).length = l.length := by simp [idxRows]
theorem Fam.tab {h0 h h' : Hp} {S : Nat → Prop} {J : Nat → Option Addr × Nat} {ct : Nat → List Nat} (f : Fam h0 h S J ct) (x : h.le h') {v : Nat} (hv : S v) : Tab h' 1 (J v).1 (ct v).length (idxRows (ct v)) :=
  ((f.row v hv).mono x).tab (idxRows_wid _) (by decide)
theorem weaveEnd (e : Env) (h h' : Hp) (N n ca : Nat) (arcs : List Arc) (Aa : Option Addr) (gi go : Addr) (J : Nat → Option Addr × Nat) (hn : arcs.length = n) (hf : Fam h h' (fun v => v < 2 * N) J (part arcs N n)) (h2 : e 2 = .p 0 0) (h3 : e 3 = .p 1 0) :
    wpIR Tryz.prog 55 ((IR.reg ir96_r9).seq IR.ret) (wpEnd Tryz.prog Tryz.f96.results.toList fun r h' => h.le h' ∧ WovenAt h' N arcs r) e (webL N n ca arcs Aa gi go n J) h' := by
  subst hn
  have he : e = upd (upd e 3 (.p 1 0)) 2 (.p 0 0) := by
    funext t
    unfold upd
    by_cases q : t = 2
    · subst q; exact h2
    · by_cases q2 : t = 3
      · subst q2; exact h3
      · rw [show Nat.beq t 2 = false from Bool.eq_false_iff.2 fun k => q (Nat.eq_of_beq_eq_true k), show Nat.beq t 3 = false from Bool.eq_false_iff.2 fun k => q2 (Nat.eq_of_beq_eq_true k)]; rfl
  rw [he]
  conv => whnf
  refine .pub 2 47 5 Aa arcs.length ca _ rfl fun h1 hle1 hr1 _ => .pub 3 25 1 (some gi) N N _ rfl fun h2 hle2 hr2 _ => .pub 4 25 1 (some go) N N _ rfl fun h3 hle3 hr3 _ => .done ?_
  rw [famCells_in] at hr2
  rw [famCells_out] at hr3
  have l13 := Hp.le_trans hle2 hle3
  have l03 := Hp.le_trans hle1 l13
  refine ⟨Hp.le_trans hf.le l03, Aa, some gi, some go, ca, N, N, J, fun v => J (N + v), rfl, (hr1.mono l13).tab (arcs_wid _) (by decide), (hr2.mono hle3).tab (slcRows_wid _ _ _) (by decide), hr3.tab (slcRows_wid _ _ _) (by decide), fun v hv => ?_, fun v hv => ?_⟩
  · have := hf.tab l03 (v := v) (by omega)
    rwa [part_in hv] at this
  · have := hf.tab l03 (v := N + v) (by omega)
    rwa [part_out] at this
theorem some_of {A : Option Addr} {b n : Nat} (h : A = none ↔ some (⟨b, 0, none⟩ : Addr) = none ∧ n = 0) : ∃ g, A = some g := by
  cases A with
  | none => cases (h.1 rfl).1
  | some g => exact ⟨g, rfl⟩
set_option maxHeartbeats 4000000 in
theorem weave23 (N n ca : Nat) (arcs : List Arc) (A : Option Addr) (h : Hp) (hs : chk N arcs = 0) (ht : Tab h 5 A n (arcs.map Arc.cells)) (hn : n * 40 ≤ 140737488355328) :
    Fn Tryz.prog 96 #[netV N A n ca] h fun r h' => h.le h' ∧ WovenAt h' N arcs r := by
  have hN := (chk_zero hs).2.1
  have hlen : arcs.length = n := by simpa using ht.len
  refine Fn.intro (args := [netV N A n ca]) mix14 Tryz.func96 rfl (by decide) Tryz.ntmps96 rfl (low96 rfl) rfl ?_
  conv => whnf
  refine And.intro ?_ ?_
  · conv => whnf
    refine And.intro ?_ ?_
    · conv => whnf
      refine EvPub.mk fun b hb => ?_
      conv => whnf
      refine EvAppend.old 3 _ _ rfl (ht.src _) (arcs_one arcs) (by simp [maxLen]; omega) (by omega) fun A c hA => ?_
      conv => whnf
      refine And.intro ?_ ?_
      · conv => whnf
        refine EvMake.one N (.slice none 0 0) rfl rfl rfl rfl (by omega) (by omega) fun gI => ?_
        conv => whnf
        refine And.intro ?_ ?_
        · conv => whnf
          refine EvMake.one N (.slice none 0 0) rfl rfl rfl rfl (by omega) (by omega) fun gO => ?_
          conv => whnf
          exact weaveLoop _ _ _ h [1, 6, 3, 4, 5] N (0 + n) c arcs A gI gO hs (by omega) (fun _ => some_of hA.1) rfl rfl rfl fun e J h1 hf h2 h3 => weaveEnd e h h1 N (0 + n) c arcs A gI gO J (by omega) hf h2 h3
        · conv => whnf
          refine EvMake.one N (.slice none 0 0) rfl rfl rfl rfl (by omega) (by omega) fun gO => ?_
          conv => whnf
          exact weaveLoop _ _ _ h [1, 5, 3, 4, 6] N (0 + n) c arcs A gI gO hs (by omega) (fun _ => some_of hA.1) rfl rfl rfl fun e J h1 hf h2 h3 => weaveEnd e h h1 N (0 + n) c arcs A gI gO J (by omega) hf h2 h3
      · conv => whnf
        refine And.intro ?_ ?_
        · conv => whnf
          refine EvMake.one N (.slice none 0 0) rfl rfl rfl rfl (by omega) (by omega) fun gO => ?_
          conv => whnf
          refine And.intro ?_ ?_
          · conv => whnf
            refine EvMake.one N (.slice none 0 0) rfl rfl rfl rfl (by omega) (by omega) fun gI => ?_
            conv => whnf
            exact weaveLoop _ _ _ h [1, 6, 3, 5, 4] N (0 + n) c arcs A gI gO hs (by omega) (fun _ => some_of hA.1) rfl rfl rfl fun e J h1 hf h2 h3 => weaveEnd e h h1 N (0 + n) c arcs A gI gO J (by omega) hf h2 h3
          · conv => whnf
            refine EvMake.one N (.slice none 0 0) rfl rfl rfl rfl (by omega) (by omega) fun gI => ?_
            conv => whnf
            exact weaveLoop _ _ _ h [1, 5, 3, 6, 4] N (0 + n) c arcs A gI gO hs (by omega) (fun _ => some_of hA.1) rfl rfl rfl fun e J h1 hf h2 h3 => weaveEnd e h h1 N (0 + n) c arcs A gI gO J (by omega) hf h2 h3
        · conv => whnf
          refine And.intro ?_ ?_
          · conv => whnf
            refine EvMake.one N (.slice none 0 0) rfl rfl rfl rfl (by omega) (by omega) fun gI => ?_
            conv => whnf
            refine EvMake.one N (.slice none 0 0) rfl rfl rfl rfl (by omega) (by omega) fun gO => ?_
            conv => whnf
            exact weaveLoop _ _ _ h [1, 4, 3, 5, 6] N (0 + n) c arcs A gI gO hs (by omega) (fun _ => some_of hA.1) rfl rfl rfl fun e J h1 hf h2 h3 => weaveEnd e h h1 N (0 + n) c arcs A gI gO J (by omega) hf h2 h3
          · conv => whnf
            refine EvMake.one N (.slice none 0 0) rfl rfl rfl rfl (by omega) (by omega) fun gO => ?_
            conv => whnf
            refine EvMake.one N (.slice none 0 0) rfl rfl rfl rfl (by omega) (by omega) fun gI => ?_
            conv => whnf
            exact weaveLoop _ _ _ h [1, 4, 3, 6, 5] N (0 + n) c arcs A gI gO hs (by omega) (fun _ => some_of hA.1) rfl rfl rfl fun e J h1 hf h2 h3 => weaveEnd e h h1 N (0 + n) c arcs A gI gO J (by omega) hf h2 h3
    · conv => whnf
      refine And.intro ?_ ?_
      · conv => whnf
        refine EvMake.one N (.slice none 0 0) rfl rfl rfl rfl (by omega) (by omega) fun gI => ?_
        conv => whnf
        refine And.intro ?_ ?_
        · conv => whnf
          refine EvPub.mk fun b hb => ?_
          conv => whnf
          refine EvAppend.old 4 _ _ rfl (ht.src _) (arcs_one arcs) (by simp [maxLen]; omega) (by omega) fun A c hA => ?_
          conv => whnf
          refine And.intro ?_ ?_
          · conv => whnf
            refine EvMake.one N (.slice none 0 0) rfl rfl rfl rfl (by omega) (by omega) fun gO => ?_
            conv => whnf
            exact weaveLoop _ _ _ h [1, 6, 4, 3, 5] N (0 + n) c arcs A gI gO hs (by omega) (fun _ => some_of hA.1) rfl rfl rfl fun e J h1 hf h2 h3 => weaveEnd e h h1 N (0 + n) c arcs A gI gO J (by omega) hf h2 h3
          · conv => whnf
            refine EvMake.one N (.slice none 0 0) rfl rfl rfl rfl (by omega) (by omega) fun gO => ?_
            conv => whnf
            exact weaveLoop _ _ _ h [1, 5, 4, 3, 6] N (0 + n) c arcs A gI gO hs (by omega) (fun _ => some_of hA.1) rfl rfl rfl fun e J h1 hf h2 h3 => weaveEnd e h h1 N (0 + n) c arcs A gI gO J (by omega) hf h2 h3
        · conv => whnf
          refine And.intro ?_ ?_
          · conv => whnf
            refine EvMake.one N (.slice none 0 0) rfl rfl rfl rfl (by omega) (by omega) fun gO => ?_
            conv => whnf
            refine And.intro ?_ ?_
            · conv => whnf
              refine EvPub.mk fun b hb => ?_
              conv => whnf
              refine EvAppend.old 5 _ _ rfl (ht.src _) (arcs_one arcs) (by simp [maxLen]; omega) (by omega) fun A c hA => ?_
              conv => whnf
              exact weaveLoop _ _ _ h [1, 6, 5, 3, 4] N (0 + n) c arcs A gI gO hs (by omega) (fun _ => some_of hA.1) rfl rfl rfl fun e J h1 hf h2 h3 => weaveEnd e h h1 N (0 + n) c arcs A gI gO J (by omega) hf h2 h3
            · conv => whnf
              refine EvPub.mk fun b hb => ?_
              conv => whnf
              refine EvAppend.old 6 _ _ rfl (ht.src _) (arcs_one arcs) (by simp [maxLen]; omega) (by omega) fun A c hA => ?_
              conv => whnf
              exact weaveLoop _ _ _ h [1, 5, 6, 3, 4] N (0 + n) c arcs A gI gO hs (by omega) (fun _ => some_of hA.1) rfl rfl rfl fun e J h1 hf h2 h3 => weaveEnd e h h1 N (0 + n) c arcs A gI gO J (by omega) hf h2 h3
          · conv => whnf
            refine And.intro ?_ ?_
            · conv => whnf
              refine EvPub.mk fun b hb => ?_
              conv => whnf
              refine EvAppend.old 5 _ _ rfl (ht.src _) (arcs_one arcs) (by simp [maxLen]; omega) (by omega) fun A c hA => ?_
              conv => whnf
              refine EvMake.one N (.slice none 0 0) rfl rfl rfl rfl (by omega) (by omega) fun gO => ?_
              conv => whnf
              exact weaveLoop _ _ _ h [1, 4, 5, 3, 6] N (0 + n) c arcs A gI gO hs (by omega) (fun _ => some_of hA.1) rfl rfl rfl fun e J h1 hf h2 h3 => weaveEnd e h h1 N (0 + n) c arcs A gI gO J (by omega) hf h2 h3
            · conv => whnf
              refine EvMake.one N (.slice none 0 0) rfl rfl rfl rfl (by omega) (by omega) fun gO => ?_
              conv => whnf
              refine EvPub.mk fun b hb => ?_
              conv => whnf
              refine EvAppend.old 6 _ _ rfl (ht.src _) (arcs_one arcs) (by simp [maxLen]; omega) (by omega) fun A c hA => ?_
              conv => whnf
              exact weaveLoop _ _ _ h [1, 4, 6, 3, 5] N (0 + n) c arcs A gI gO hs (by omega) (fun _ => some_of hA.1) rfl rfl rfl fun e J h1 hf h2 h3 => weaveEnd e h h1 N (0 + n) c arcs A gI gO J (by omega) hf h2 h3
      · conv => whnf
        refine And.intro ?_ ?_
        · conv => whnf
          refine EvMake.one N (.slice none 0 0) rfl rfl rfl rfl (by omega) (by omega) fun gO => ?_
          conv => whnf
          refine And.intro ?_ ?_
          · conv => whnf
            refine EvPub.mk fun b hb => ?_
            conv => whnf
            refine EvAppend.old 4 _ _ rfl (ht.src _) (arcs_one arcs) (by simp [maxLen]; omega) (by omega) fun A c hA => ?_
            conv => whnf
            refine And.intro ?_ ?_
            · conv => whnf
              refine EvMake.one N (.slice none 0 0) rfl rfl rfl rfl (by omega) (by omega) fun gI => ?_
              conv => whnf
              exact weaveLoop _ _ _ h [1, 6, 4, 5, 3] N (0 + n) c arcs A gI gO hs (by omega) (fun _ => some_of hA.1) rfl rfl rfl fun e J h1 hf h2 h3 => weaveEnd e h h1 N (0 + n) c arcs A gI gO J (by omega) hf h2 h3
            · conv => whnf
              refine EvMake.one N (.slice none 0 0) rfl rfl rfl rfl (by omega) (by omega) fun gI => ?_
              conv => whnf
              exact weaveLoop _ _ _ h [1, 5, 4, 6, 3] N (0 + n) c arcs A gI gO hs (by omega) (fun _ => some_of hA.1) rfl rfl rfl fun e J h1 hf h2 h3 => weaveEnd e h h1 N (0 + n) c arcs A gI gO J (by omega) hf h2 h3
          · conv => whnf
            refine And.intro ?_ ?_
            · conv => whnf
              refine EvMake.one N (.slice none 0 0) rfl rfl rfl rfl (by omega) (by omega) fun gI => ?_
              conv => whnf
              refine And.intro ?_ ?_
              · conv => whnf
                refine EvPub.mk fun b hb => ?_
                conv => whnf
                refine EvAppend.old 5 _ _ rfl (ht.src _) (arcs_one arcs) (by simp [maxLen]; omega) (by omega) fun A c hA => ?_
                conv => whnf
                exact weaveLoop _ _ _ h [1, 6, 5, 4, 3] N (0 + n) c arcs A gI gO hs (by omega) (fun _ => some_of hA.1) rfl rfl rfl fun e J h1 hf h2 h3 => weaveEnd e h h1 N (0 + n) c arcs A gI gO J (by omega) hf h2 h3
              · conv => whnf
                refine EvPub.mk fun b hb => ?_
                conv => whnf
                refine EvAppend.old 6 _ _ rfl (ht.src _) (arcs_one arcs) (by simp [maxLen]; omega) (by omega) fun A c hA => ?_
                conv => whnf
                exact weaveLoop _ _ _ h [1, 5, 6, 4, 3] N (0 + n) c arcs A gI gO hs (by omega) (fun _ => some_of hA.1) rfl rfl rfl fun e J h1 hf h2 h3 => weaveEnd e h h1 N (0 + n) c arcs A gI gO J (by omega) hf h2 h3
            · conv => whnf
              refine And.intro ?_ ?_
              · conv => whnf
                refine EvPub.mk fun b hb => ?_
                conv => whnf
                refine EvAppend.old 5 _ _ rfl (ht.src _) (arcs_one arcs) (by simp [maxLen]; omega) (by omega) fun A c hA => ?_
                conv => whnf
                refine EvMake.one N (.slice none 0 0) rfl rfl rfl rfl (by omega) (by omega) fun gI => ?_
                conv => whnf
                exact weaveLoop _ _ _ h [1, 4, 5, 6, 3] N (0 + n) c arcs A gI gO hs (by omega) (fun _ => some_of hA.1) rfl rfl rfl fun e J h1 hf h2 h3 => weaveEnd e h h1 N (0 + n) c arcs A gI gO J (by omega) hf h2 h3
              · conv => whnf
                refine EvMake.one N (.slice none 0 0) rfl rfl rfl rfl (by omega) (by omega) fun gI => ?_
                conv => whnf
                refine EvPub.mk fun b hb => ?_
                conv => whnf
                refine EvAppend.old 6 _ _ rfl (ht.src _) (arcs_one arcs) (by simp [maxLen]; omega) (by omega) fun A c hA => ?_
                conv => whnf
                exact weaveLoop _ _ _ h [1, 4, 6, 5, 3] N (0 + n) c arcs A gI gO hs (by omega) (fun _ => some_of hA.1) rfl rfl rfl fun e J h1 hf h2 h3 => weaveEnd e h h1 N (0 + n) c arcs A gI gO J (by omega) hf h2 h3
        · conv => whnf
          refine And.intro ?_ ?_
          · conv => whnf
            refine EvPub.mk fun b hb => ?_
            conv => whnf
            refine EvAppend.old 4 _ _ rfl (ht.src _) (arcs_one arcs) (by simp [maxLen]; omega) (by omega) fun A c hA => ?_
            conv => whnf
            refine And.intro ?_ ?_
            · conv => whnf
              refine EvMake.one N (.slice none 0 0) rfl rfl rfl rfl (by omega) (by omega) fun gI => ?_
              conv => whnf
              refine EvMake.one N (.slice none 0 0) rfl rfl rfl rfl (by omega) (by omega) fun gO => ?_
              conv => whnf
              exact weaveLoop _ _ _ h [1, 3, 4, 5, 6] N (0 + n) c arcs A gI gO hs (by omega) (fun _ => some_of hA.1) rfl rfl rfl fun e J h1 hf h2 h3 => weaveEnd e h h1 N (0 + n) c arcs A gI gO J (by omega) hf h2 h3
            · conv => whnf
              refine EvMake.one N (.slice none 0 0) rfl rfl rfl rfl (by omega) (by omega) fun gO => ?_
              conv => whnf
              refine EvMake.one N (.slice none 0 0) rfl rfl rfl rfl (by omega) (by omega) fun gI => ?_
              conv => whnf
              exact weaveLoop _ _ _ h [1, 3, 4, 6, 5] N (0 + n) c arcs A gI gO hs (by omega) (fun _ => some_of hA.1) rfl rfl rfl fun e J h1 hf h2 h3 => weaveEnd e h h1 N (0 + n) c arcs A gI gO J (by omega) hf h2 h3
          · conv => whnf
            refine And.intro ?_ ?_
            · conv => whnf
              refine EvMake.one N (.slice none 0 0) rfl rfl rfl rfl (by omega) (by omega) fun gI => ?_
              conv => whnf
              refine And.intro ?_ ?_
              · conv => whnf
                refine EvPub.mk fun b hb => ?_
                conv => whnf
                refine EvAppend.old 5 _ _ rfl (ht.src _) (arcs_one arcs) (by simp [maxLen]; omega) (by omega) fun A c hA => ?_
                conv => whnf
                refine EvMake.one N (.slice none 0 0) rfl rfl rfl rfl (by omega) (by omega) fun gO => ?_
                conv => whnf
                exact weaveLoop _ _ _ h [1, 3, 5, 4, 6] N (0 + n) c arcs A gI gO hs (by omega) (fun _ => some_of hA.1) rfl rfl rfl fun e J h1 hf h2 h3 => weaveEnd e h h1 N (0 + n) c arcs A gI gO J (by omega) hf h2 h3
              · conv => whnf
                refine EvMake.one N (.slice none 0 0) rfl rfl rfl rfl (by omega) (by omega) fun gO => ?_
                conv => whnf
                refine EvPub.mk fun b hb => ?_
                conv => whnf
                refine EvAppend.old 6 _ _ rfl (ht.src _) (arcs_one arcs) (by simp [maxLen]; omega) (by omega) fun A c hA => ?_
                conv => whnf
                exact weaveLoop _ _ _ h [1, 3, 6, 4, 5] N (0 + n) c arcs A gI gO hs (by omega) (fun _ => some_of hA.1) rfl rfl rfl fun e J h1 hf h2 h3 => weaveEnd e h h1 N (0 + n) c arcs A gI gO J (by omega) hf h2 h3
            · conv => whnf
              refine EvMake.one N (.slice none 0 0) rfl rfl rfl rfl (by omega) (by omega) fun gO => ?_
              conv => whnf
              refine And.intro ?_ ?_
              · conv => whnf
                refine EvPub.mk fun b hb => ?_
                conv => whnf
                refine EvAppend.old 5 _ _ rfl (ht.src _) (arcs_one arcs) (by simp [maxLen]; omega) (by omega) fun A c hA => ?_
                conv => whnf
                refine EvMake.one N (.slice none 0 0) rfl rfl rfl rfl (by omega) (by omega) fun gI => ?_
                conv => whnf
                exact weaveLoop _ _ _ h [1, 3, 5, 6, 4] N (0 + n) c arcs A gI gO hs (by omega) (fun _ => some_of hA.1) rfl rfl rfl fun e J h1 hf h2 h3 => weaveEnd e h h1 N (0 + n) c arcs A gI gO J (by omega) hf h2 h3
              · conv => whnf
                refine EvMake.one N (.slice none 0 0) rfl rfl rfl rfl (by omega) (by omega) fun gI => ?_
                conv => whnf
                refine EvPub.mk fun b hb => ?_
                conv => whnf
                refine EvAppend.old 6 _ _ rfl (ht.src _) (arcs_one arcs) (by simp [maxLen]; omega) (by omega) fun A c hA => ?_
                conv => whnf
                exact weaveLoop _ _ _ h [1, 3, 6, 5, 4] N (0 + n) c arcs A gI gO hs (by omega) (fun _ => some_of hA.1) rfl rfl rfl fun e J h1 hf h2 h3 => weaveEnd e h h1 N (0 + n) c arcs A gI gO J (by omega) hf h2 h3
  · conv => whnf
    refine And.intro ?_ ?_
    · conv => whnf
      refine EvMake.one N (.slice none 0 0) rfl rfl rfl rfl (by omega) (by omega) fun gI => ?_
      conv => whnf
      refine And.intro ?_ ?_
      · conv => whnf
        refine And.intro ?_ ?_
        · conv => whnf
          refine EvPub.mk fun b hb => ?_
          conv => whnf
          refine EvAppend.old 4 _ _ rfl (ht.src _) (arcs_one arcs) (by simp [maxLen]; omega) (by omega) fun A c hA => ?_
          conv => whnf
          refine And.intro ?_ ?_
          · conv => whnf
            refine EvMake.one N (.slice none 0 0) rfl rfl rfl rfl (by omega) (by omega) fun gO => ?_
            conv => whnf
            exact weaveLoop _ _ _ h [1, 6, 4, 2, 5] N (0 + n) c arcs A gI gO hs (by omega) (fun _ => some_of hA.1) rfl rfl rfl fun e J h1 hf h2 h3 => weaveEnd e h h1 N (0 + n) c arcs A gI gO J (by omega) hf h2 h3
          · conv => whnf
            refine EvMake.one N (.slice none 0 0) rfl rfl rfl rfl (by omega) (by omega) fun gO => ?_
            conv => whnf
            exact weaveLoop _ _ _ h [1, 5, 4, 2, 6] N (0 + n) c arcs A gI gO hs (by omega) (fun _ => some_of hA.1) rfl rfl rfl fun e J h1 hf h2 h3 => weaveEnd e h h1 N (0 + n) c arcs A gI gO J (by omega) hf h2 h3
        · conv => whnf
          refine And.intro ?_ ?_
          · conv => whnf
            refine EvMake.one N (.slice none 0 0) rfl rfl rfl rfl (by omega) (by omega) fun gO => ?_
            conv => whnf
            refine And.intro ?_ ?_
            · conv => whnf
              refine EvPub.mk fun b hb => ?_
              conv => whnf
              refine EvAppend.old 5 _ _ rfl (ht.src _) (arcs_one arcs) (by simp [maxLen]; omega) (by omega) fun A c hA => ?_
              conv => whnf
              exact weaveLoop _ _ _ h [1, 6, 5, 2, 4] N (0 + n) c arcs A gI gO hs (by omega) (fun _ => some_of hA.1) rfl rfl rfl fun e J h1 hf h2 h3 => weaveEnd e h h1 N (0 + n) c arcs A gI gO J (by omega) hf h2 h3
            · conv => whnf
              refine EvPub.mk fun b hb => ?_
              conv => whnf
              refine EvAppend.old 6 _ _ rfl (ht.src _) (arcs_one arcs) (by simp [maxLen]; omega) (by omega) fun A c hA => ?_
              conv => whnf
              exact weaveLoop _ _ _ h [1, 5, 6, 2, 4] N (0 + n) c arcs A gI gO hs (by omega) (fun _ => some_of hA.1) rfl rfl rfl fun e J h1 hf h2 h3 => weaveEnd e h h1 N (0 + n) c arcs A gI gO J (by omega) hf h2 h3
          · conv => whnf
            refine And.intro ?_ ?_
            · conv => whnf
              refine EvPub.mk fun b hb => ?_
              conv => whnf
              refine EvAppend.old 5 _ _ rfl (ht.src _) (arcs_one arcs) (by simp [maxLen]; omega) (by omega) fun A c hA => ?_
              conv => whnf
              refine EvMake.one N (.slice none 0 0) rfl rfl rfl rfl (by omega) (by omega) fun gO => ?_
              conv => whnf
              exact weaveLoop _ _ _ h [1, 4, 5, 2, 6] N (0 + n) c arcs A gI gO hs (by omega) (fun _ => some_of hA.1) rfl rfl rfl fun e J h1 hf h2 h3 => weaveEnd e h h1 N (0 + n) c arcs A gI gO J (by omega) hf h2 h3
            · conv => whnf
              refine EvMake.one N (.slice none 0 0) rfl rfl rfl rfl (by omega) (by omega) fun gO => ?_
              conv => whnf
              refine EvPub.mk fun b hb => ?_
              conv => whnf
              refine EvAppend.old 6 _ _ rfl (ht.src _) (arcs_one arcs) (by simp [maxLen]; omega) (by omega) fun A c hA => ?_
              conv => whnf
              exact weaveLoop _ _ _ h [1, 4, 6, 2, 5] N (0 + n) c arcs A gI gO hs (by omega) (fun _ => some_of hA.1) rfl rfl rfl fun e J h1 hf h2 h3 => weaveEnd e h h1 N (0 + n) c arcs A gI gO J (by omega) hf h2 h3
      · conv => whnf
        refine And.intro ?_ ?_
        · conv => whnf
          refine EvMake.one N (.slice none 0 0) rfl rfl rfl rfl (by omega) (by omega) fun gO => ?_
          conv => whnf
          refine And.intro ?_ ?_
          · conv => whnf
            refine And.intro ?_ ?_
            · conv => whnf
              refine EvPub.mk fun b hb => ?_
              conv => whnf
              refine EvAppend.old 5 _ _ rfl (ht.src _) (arcs_one arcs) (by simp [maxLen]; omega) (by omega) fun A c hA => ?_
              conv => whnf
              exact weaveLoop _ _ _ h [1, 6, 5, 2, 3] N (0 + n) c arcs A gI gO hs (by omega) (fun _ => some_of hA.1) rfl rfl rfl fun e J h1 hf h2 h3 => weaveEnd e h h1 N (0 + n) c arcs A gI gO J (by omega) hf h2 h3
            · conv => whnf
              refine EvPub.mk fun b hb => ?_
              conv => whnf
              refine EvAppend.old 6 _ _ rfl (ht.src _) (arcs_one arcs) (by simp [maxLen]; omega) (by omega) fun A c hA => ?_
              conv => whnf
              exact weaveLoop _ _ _ h [1, 5, 6, 2, 3] N (0 + n) c arcs A gI gO hs (by omega) (fun _ => some_of hA.1) rfl rfl rfl fun e J h1 hf h2 h3 => weaveEnd e h h1 N (0 + n) c arcs A gI gO J (by omega) hf h2 h3
          · conv => whnf
            refine EvPub.mk fun b hb => ?_
            conv => whnf
            refine EvAppend.old 6 _ _ rfl (ht.src _) (arcs_one arcs) (by simp [maxLen]; omega) (by omega) fun A c hA => ?_
            conv => whnf
            exact weaveLoop _ _ _ h [1, 4, 6, 2, 3] N (0 + n) c arcs A gI gO hs (by omega) (fun _ => some_of hA.1) rfl rfl rfl fun e J h1 hf h2 h3 => weaveEnd e h h1 N (0 + n) c arcs A gI gO J (by omega) hf h2 h3
        · conv => whnf
          refine And.intro ?_ ?_
          · conv => whnf
            refine And.intro ?_ ?_
            · conv => whnf
              refine EvPub.mk fun b hb => ?_
              conv => whnf
              refine EvAppend.old 5 _ _ rfl (ht.src _) (arcs_one arcs) (by simp [maxLen]; omega) (by omega) fun A c hA => ?_
              conv => whnf
              refine EvMake.one N (.slice none 0 0) rfl rfl rfl rfl (by omega) (by omega) fun gO => ?_
              conv => whnf
              exact weaveLoop _ _ _ h [1, 3, 5, 2, 6] N (0 + n) c arcs A gI gO hs (by omega) (fun _ => some_of hA.1) rfl rfl rfl fun e J h1 hf h2 h3 => weaveEnd e h h1 N (0 + n) c arcs A gI gO J (by omega) hf h2 h3
            · conv => whnf
              refine EvMake.one N (.slice none 0 0) rfl rfl rfl rfl (by omega) (by omega) fun gO => ?_
              conv => whnf
              refine EvPub.mk fun b hb => ?_
              conv => whnf
              refine EvAppend.old 6 _ _ rfl (ht.src _) (arcs_one arcs) (by simp [maxLen]; omega) (by omega) fun A c hA => ?_
              conv => whnf
              exact weaveLoop _ _ _ h [1, 3, 6, 2, 5] N (0 + n) c arcs A gI gO hs (by omega) (fun _ => some_of hA.1) rfl rfl rfl fun e J h1 hf h2 h3 => weaveEnd e h h1 N (0 + n) c arcs A gI gO J (by omega) hf h2 h3
          · conv => whnf
            refine EvMake.one N (.slice none 0 0) rfl rfl rfl rfl (by omega) (by omega) fun gO => ?_
            conv => whnf
            refine EvPub.mk fun b hb => ?_
            conv => whnf
            refine EvAppend.old 6 _ _ rfl (ht.src _) (arcs_one arcs) (by simp [maxLen]; omega) (by omega) fun A c hA => ?_
            conv => whnf
            exact weaveLoop _ _ _ h [1, 3, 6, 2, 4] N (0 + n) c arcs A gI gO hs (by omega) (fun _ => some_of hA.1) rfl rfl rfl fun e J h1 hf h2 h3 => weaveEnd e h h1 N (0 + n) c arcs A gI gO J (by omega) hf h2 h3
    · conv => whnf
      refine And.intro ?_ ?_
      · conv => whnf
        refine EvMake.one N (.slice none 0 0) rfl rfl rfl rfl (by omega) (by omega) fun gO => ?_
        conv => whnf
        refine And.intro ?_ ?_
        · conv => whnf
          refine And.intro ?_ ?_
          · conv => whnf
            refine EvPub.mk fun b hb => ?_
            conv => whnf
            refine EvAppend.old 4 _ _ rfl (ht.src _) (arcs_one arcs) (by simp [maxLen]; omega) (by omega) fun A c hA => ?_
            conv => whnf
            refine And.intro ?_ ?_
            · conv => whnf
              refine EvMake.one N (.slice none 0 0) rfl rfl rfl rfl (by omega) (by omega) fun gI => ?_
              conv => whnf
              exact weaveLoop _ _ _ h [1, 6, 4, 5, 2] N (0 + n) c arcs A gI gO hs (by omega) (fun _ => some_of hA.1) rfl rfl rfl fun e J h1 hf h2 h3 => weaveEnd e h h1 N (0 + n) c arcs A gI gO J (by omega) hf h2 h3
            · conv => whnf
              refine EvMake.one N (.slice none 0 0) rfl rfl rfl rfl (by omega) (by omega) fun gI => ?_
              conv => whnf
              exact weaveLoop _ _ _ h [1, 5, 4, 6, 2] N (0 + n) c arcs A gI gO hs (by omega) (fun _ => some_of hA.1) rfl rfl rfl fun e J h1 hf h2 h3 => weaveEnd e h h1 N (0 + n) c arcs A gI gO J (by omega) hf h2 h3
          · conv => whnf
            refine And.intro ?_ ?_
            · conv => whnf
              refine EvMake.one N (.slice none 0 0) rfl rfl rfl rfl (by omega) (by omega) fun gI => ?_
              conv => whnf
              refine And.intro ?_ ?_
              · conv => whnf
                refine EvPub.mk fun b hb => ?_
                conv => whnf
                refine EvAppend.old 5 _ _ rfl (ht.src _) (arcs_one arcs) (by simp [maxLen]; omega) (by omega) fun A c hA => ?_
                conv => whnf
                exact weaveLoop _ _ _ h [1, 6, 5, 4, 2] N (0 + n) c arcs A gI gO hs (by omega) (fun _ => some_of hA.1) rfl rfl rfl fun e J h1 hf h2 h3 => weaveEnd e h h1 N (0 + n) c arcs A gI gO J (by omega) hf h2 h3
              · conv => whnf
                refine EvPub.mk fun b hb => ?_
                conv => whnf
                refine EvAppend.old 6 _ _ rfl (ht.src _) (arcs_one arcs) (by simp [maxLen]; omega) (by omega) fun A c hA => ?_
                conv => whnf
                exact weaveLoop _ _ _ h [1, 5, 6, 4, 2] N (0 + n) c arcs A gI gO hs (by omega) (fun _ => some_of hA.1) rfl rfl rfl fun e J h1 hf h2 h3 => weaveEnd e h h1 N (0 + n) c arcs A gI gO J (by omega) hf h2 h3
            · conv => whnf
              refine And.intro ?_ ?_
              · conv => whnf
                refine EvPub.mk fun b hb => ?_
                conv => whnf
                refine EvAppend.old 5 _ _ rfl (ht.src _) (arcs_one arcs) (by simp [maxLen]; omega) (by omega) fun A c hA => ?_
                conv => whnf
                refine EvMake.one N (.slice none 0 0) rfl rfl rfl rfl (by omega) (by omega) fun gI => ?_
                conv => whnf
                exact weaveLoop _ _ _ h [1, 4, 5, 6, 2] N (0 + n) c arcs A gI gO hs (by omega) (fun _ => some_of hA.1) rfl rfl rfl fun e J h1 hf h2 h3 => weaveEnd e h h1 N (0 + n) c arcs A gI gO J (by omega) hf h2 h3
              · conv => whnf
                refine EvMake.one N (.slice none 0 0) rfl rfl rfl rfl (by omega) (by omega) fun gI => ?_
                conv => whnf
                refine EvPub.mk fun b hb => ?_
                conv => whnf
                refine EvAppend.old 6 _ _ rfl (ht.src _) (arcs_one arcs) (by simp [maxLen]; omega) (by omega) fun A c hA => ?_
                conv => whnf
                exact weaveLoop _ _ _ h [1, 4, 6, 5, 2] N (0 + n) c arcs A gI gO hs (by omega) (fun _ => some_of hA.1) rfl rfl rfl fun e J h1 hf h2 h3 => weaveEnd e h h1 N (0 + n) c arcs A gI gO J (by omega) hf h2 h3
        · conv => whnf
          refine And.intro ?_ ?_
          · conv => whnf
            refine EvMake.one N (.slice none 0 0) rfl rfl rfl rfl (by omega) (by omega) fun gI => ?_
            conv => whnf
            refine And.intro ?_ ?_
            · conv => whnf
              refine And.intro ?_ ?_
              · conv => whnf
                refine EvPub.mk fun b hb => ?_
                conv => whnf
                refine EvAppend.old 5 _ _ rfl (ht.src _) (arcs_one arcs) (by simp [maxLen]; omega) (by omega) fun A c hA => ?_
                conv => whnf
                exact weaveLoop _ _ _ h [1, 6, 5, 3, 2] N (0 + n) c arcs A gI gO hs (by omega) (fun _ => some_of hA.1) rfl rfl rfl fun e J h1 hf h2 h3 => weaveEnd e h h1 N (0 + n) c arcs A gI gO J (by omega) hf h2 h3
              · conv => whnf
                refine EvPub.mk fun b hb => ?_
                conv => whnf
                refine EvAppend.old 6 _ _ rfl (ht.src _) (arcs_one arcs) (by simp [maxLen]; omega) (by omega) fun A c hA => ?_
                conv => whnf
                exact weaveLoop _ _ _ h [1, 5, 6, 3, 2] N (0 + n) c arcs A gI gO hs (by omega) (fun _ => some_of hA.1) rfl rfl rfl fun e J h1 hf h2 h3 => weaveEnd e h h1 N (0 + n) c arcs A gI gO J (by omega) hf h2 h3
            · conv => whnf
              refine EvPub.mk fun b hb => ?_
              conv => whnf
              refine EvAppend.old 6 _ _ rfl (ht.src _) (arcs_one arcs) (by simp [maxLen]; omega) (by omega) fun A c hA => ?_
              conv => whnf
              exact weaveLoop _ _ _ h [1, 4, 6, 3, 2] N (0 + n) c arcs A gI gO hs (by omega) (fun _ => some_of hA.1) rfl rfl rfl fun e J h1 hf h2 h3 => weaveEnd e h h1 N (0 + n) c arcs A gI gO J (by omega) hf h2 h3
          · conv => whnf
            refine And.intro ?_ ?_
            · conv => whnf
              refine And.intro ?_ ?_
              · conv => whnf
                refine EvPub.mk fun b hb => ?_
                conv => whnf
                refine EvAppend.old 5 _ _ rfl (ht.src _) (arcs_one arcs) (by simp [maxLen]; omega) (by omega) fun A c hA => ?_
                conv => whnf
                refine EvMake.one N (.slice none 0 0) rfl rfl rfl rfl (by omega) (by omega) fun gI => ?_
                conv => whnf
                exact weaveLoop _ _ _ h [1, 3, 5, 6, 2] N (0 + n) c arcs A gI gO hs (by omega) (fun _ => some_of hA.1) rfl rfl rfl fun e J h1 hf h2 h3 => weaveEnd e h h1 N (0 + n) c arcs A gI gO J (by omega) hf h2 h3
              · conv => whnf
                refine EvMake.one N (.slice none 0 0) rfl rfl rfl rfl (by omega) (by omega) fun gI => ?_
                conv => whnf
                refine EvPub.mk fun b hb => ?_
                conv => whnf
                refine EvAppend.old 6 _ _ rfl (ht.src _) (arcs_one arcs) (by simp [maxLen]; omega) (by omega) fun A c hA => ?_
                conv => whnf
                exact weaveLoop _ _ _ h [1, 3, 6, 5, 2] N (0 + n) c arcs A gI gO hs (by omega) (fun _ => some_of hA.1) rfl rfl rfl fun e J h1 hf h2 h3 => weaveEnd e h h1 N (0 + n) c arcs A gI gO J (by omega) hf h2 h3
            · conv => whnf
              refine EvMake.one N (.slice none 0 0) rfl rfl rfl rfl (by omega) (by omega) fun gI => ?_
              conv => whnf
              refine EvPub.mk fun b hb => ?_
              conv => whnf
              refine EvAppend.old 6 _ _ rfl (ht.src _) (arcs_one arcs) (by simp [maxLen]; omega) (by omega) fun A c hA => ?_
              conv => whnf
              exact weaveLoop _ _ _ h [1, 3, 6, 4, 2] N (0 + n) c arcs A gI gO hs (by omega) (fun _ => some_of hA.1) rfl rfl rfl fun e J h1 hf h2 h3 => weaveEnd e h h1 N (0 + n) c arcs A gI gO J (by omega) hf h2 h3
      · conv => whnf
        refine And.intro ?_ ?_
        · conv => whnf
          refine And.intro ?_ ?_
          · conv => whnf
            refine EvPub.mk fun b hb => ?_
            conv => whnf
            refine EvAppend.old 4 _ _ rfl (ht.src _) (arcs_one arcs) (by simp [maxLen]; omega) (by omega) fun A c hA => ?_
            conv => whnf
            refine And.intro ?_ ?_
            · conv => whnf
              refine EvMake.one N (.slice none 0 0) rfl rfl rfl rfl (by omega) (by omega) fun gI => ?_
              conv => whnf
              refine EvMake.one N (.slice none 0 0) rfl rfl rfl rfl (by omega) (by omega) fun gO => ?_
              conv => whnf
              exact weaveLoop _ _ _ h [1, 2, 4, 5, 6] N (0 + n) c arcs A gI gO hs (by omega) (fun _ => some_of hA.1) rfl rfl rfl fun e J h1 hf h2 h3 => weaveEnd e h h1 N (0 + n) c arcs A gI gO J (by omega) hf h2 h3
            · conv => whnf
              refine EvMake.one N (.slice none 0 0) rfl rfl rfl rfl (by omega) (by omega) fun gO => ?_
              conv => whnf
              refine EvMake.one N (.slice none 0 0) rfl rfl rfl rfl (by omega) (by omega) fun gI => ?_
              conv => whnf
              exact weaveLoop _ _ _ h [1, 2, 4, 6, 5] N (0 + n) c arcs A gI gO hs (by omega) (fun _ => some_of hA.1) rfl rfl rfl fun e J h1 hf h2 h3 => weaveEnd e h h1 N (0 + n) c arcs A gI gO J (by omega) hf h2 h3
          · conv => whnf
            refine And.intro ?_ ?_
            · conv => whnf
              refine EvMake.one N (.slice none 0 0) rfl rfl rfl rfl (by omega) (by omega) fun gI => ?_
              conv => whnf
              refine And.intro ?_ ?_
              · conv => whnf
                refine EvPub.mk fun b hb => ?_
                conv => whnf
                refine EvAppend.old 5 _ _ rfl (ht.src _) (arcs_one arcs) (by simp [maxLen]; omega) (by omega) fun A c hA => ?_
                conv => whnf
                refine EvMake.one N (.slice none 0 0) rfl rfl rfl rfl (by omega) (by omega) fun gO => ?_
                conv => whnf
                exact weaveLoop _ _ _ h [1, 2, 5, 4, 6] N (0 + n) c arcs A gI gO hs (by omega) (fun _ => some_of hA.1) rfl rfl rfl fun e J h1 hf h2 h3 => weaveEnd e h h1 N (0 + n) c arcs A gI gO J (by omega) hf h2 h3
              · conv => whnf
                refine EvMake.one N (.slice none 0 0) rfl rfl rfl rfl (by omega) (by omega) fun gO => ?_
                conv => whnf
                refine EvPub.mk fun b hb => ?_
                conv => whnf
                refine EvAppend.old 6 _ _ rfl (ht.src _) (arcs_one arcs) (by simp [maxLen]; omega) (by omega) fun A c hA => ?_
                conv => whnf
                exact weaveLoop _ _ _ h [1, 2, 6, 4, 5] N (0 + n) c arcs A gI gO hs (by omega) (fun _ => some_of hA.1) rfl rfl rfl fun e J h1 hf h2 h3 => weaveEnd e h h1 N (0 + n) c arcs A gI gO J (by omega) hf h2 h3
            · conv => whnf
              refine EvMake.one N (.slice none 0 0) rfl rfl rfl rfl (by omega) (by omega) fun gO => ?_
              conv => whnf
              refine And.intro ?_ ?_
              · conv => whnf
                refine EvPub.mk fun b hb => ?_
                conv => whnf
                refine EvAppend.old 5 _ _ rfl (ht.src _) (arcs_one arcs) (by simp [maxLen]; omega) (by omega) fun A c hA => ?_
                conv => whnf
                refine EvMake.one N (.slice none 0 0) rfl rfl rfl rfl (by omega) (by omega) fun gI => ?_
                conv => whnf
                exact weaveLoop _ _ _ h [1, 2, 5, 6, 4] N (0 + n) c arcs A gI gO hs (by omega) (fun _ => some_of hA.1) rfl rfl rfl fun e J h1 hf h2 h3 => weaveEnd e h h1 N (0 + n) c arcs A gI gO J (by omega) hf h2 h3
              · conv => whnf
                refine EvMake.one N (.slice none 0 0) rfl rfl rfl rfl (by omega) (by omega) fun gI => ?_
                conv => whnf
                refine EvPub.mk fun b hb => ?_
                conv => whnf
                refine EvAppend.old 6 _ _ rfl (ht.src _) (arcs_one arcs) (by simp [maxLen]; omega) (by omega) fun A c hA => ?_
                conv => whnf
                exact weaveLoop _ _ _ h [1, 2, 6, 5, 4] N (0 + n) c arcs A gI gO hs (by omega) (fun _ => some_of hA.1) rfl rfl rfl fun e J h1 hf h2 h3 => weaveEnd e h h1 N (0 + n) c arcs A gI gO J (by omega) hf h2 h3
        · conv => whnf
          refine And.intro ?_ ?_
          · conv => whnf
            refine EvMake.one N (.slice none 0 0) rfl rfl rfl rfl (by omega) (by omega) fun gI => ?_
            conv => whnf
            refine And.intro ?_ ?_
            · conv => whnf
              refine And.intro ?_ ?_
              · conv => whnf
                refine EvPub.mk fun b hb => ?_
                conv => whnf
                refine EvAppend.old 5 _ _ rfl (ht.src _) (arcs_one arcs) (by simp [maxLen]; omega) (by omega) fun A c hA => ?_
                conv => whnf
                refine EvMake.one N (.slice none 0 0) rfl rfl rfl rfl (by omega) (by omega) fun gO => ?_
                conv => whnf
                exact weaveLoop _ _ _ h [1, 2, 5, 3, 6] N (0 + n) c arcs A gI gO hs (by omega) (fun _ => some_of hA.1) rfl rfl rfl fun e J h1 hf h2 h3 => weaveEnd e h h1 N (0 + n) c arcs A gI gO J (by omega) hf h2 h3
              · conv => whnf
                refine EvMake.one N (.slice none 0 0) rfl rfl rfl rfl (by omega) (by omega) fun gO => ?_
                conv => whnf
                refine EvPub.mk fun b hb => ?_
                conv => whnf
                refine EvAppend.old 6 _ _ rfl (ht.src _) (arcs_one arcs) (by simp [maxLen]; omega) (by omega) fun A c hA => ?_
                conv => whnf
                exact weaveLoop _ _ _ h [1, 2, 6, 3, 5] N (0 + n) c arcs A gI gO hs (by omega) (fun _ => some_of hA.1) rfl rfl rfl fun e J h1 hf h2 h3 => weaveEnd e h h1 N (0 + n) c arcs A gI gO J (by omega) hf h2 h3
            · conv => whnf
              refine EvMake.one N (.slice none 0 0) rfl rfl rfl rfl (by omega) (by omega) fun gO => ?_
              conv => whnf
              refine EvPub.mk fun b hb => ?_
              conv => whnf
              refine EvAppend.old 6 _ _ rfl (ht.src _) (arcs_one arcs) (by simp [maxLen]; omega) (by omega) fun A c hA => ?_
              conv => whnf
              exact weaveLoop _ _ _ h [1, 2, 6, 3, 4] N (0 + n) c arcs A gI gO hs (by omega) (fun _ => some_of hA.1) rfl rfl rfl fun e J h1 hf h2 h3 => weaveEnd e h h1 N (0 + n) c arcs A gI gO J (by omega) hf h2 h3
          · conv => whnf
            refine EvMake.one N (.slice none 0 0) rfl rfl rfl rfl (by omega) (by omega) fun gO => ?_
            conv => whnf
            refine And.intro ?_ ?_
            · conv => whnf
              refine And.intro ?_ ?_
              · conv => whnf
                refine EvPub.mk fun b hb => ?_
                conv => whnf
                refine EvAppend.old 5 _ _ rfl (ht.src _) (arcs_one arcs) (by simp [maxLen]; omega) (by omega) fun A c hA => ?_
                conv => whnf
                refine EvMake.one N (.slice none 0 0) rfl rfl rfl rfl (by omega) (by omega) fun gI => ?_
                conv => whnf
                exact weaveLoop _ _ _ h [1, 2, 5, 6, 3] N (0 + n) c arcs A gI gO hs (by omega) (fun _ => some_of hA.1) rfl rfl rfl fun e J h1 hf h2 h3 => weaveEnd e h h1 N (0 + n) c arcs A gI gO J (by omega) hf h2 h3
              · conv => whnf
                refine EvMake.one N (.slice none 0 0) rfl rfl rfl rfl (by omega) (by omega) fun gI => ?_
                conv => whnf
                refine EvPub.mk fun b hb => ?_
                conv => whnf
                refine EvAppend.old 6 _ _ rfl (ht.src _) (arcs_one arcs) (by simp [maxLen]; omega) (by omega) fun A c hA => ?_
                conv => whnf
                exact weaveLoop _ _ _ h [1, 2, 6, 5, 3] N (0 + n) c arcs A gI gO hs (by omega) (fun _ => some_of hA.1) rfl rfl rfl fun e J h1 hf h2 h3 => weaveEnd e h h1 N (0 + n) c arcs A gI gO J (by omega) hf h2 h3
            · conv => whnf
              refine EvMake.one N (.slice none 0 0) rfl rfl rfl rfl (by omega) (by omega) fun gI => ?_
              conv => whnf
              refine EvPub.mk fun b hb => ?_
              conv => whnf
              refine EvAppend.old 6 _ _ rfl (ht.src _) (arcs_one arcs) (by simp [maxLen]; omega) (by omega) fun A c hA => ?_
              conv => whnf
              exact weaveLoop _ _ _ h [1, 2, 6, 4, 3] N (0 + n) c arcs A gI gO hs (by omega) (fun _ => some_of hA.1) rfl rfl rfl fun e J h1 hf h2 h3 => weaveEnd e h h1 N (0 + n) c arcs A gI gO J (by omega) hf h2 h3
def newL (w : List Value) (n N : Nat) (gT gF : Addr) (ts : List Int) : List LE :=
  [.own (w.map .v ++ [.v (.slice (some gT) n n), .v (.slice (some gF) N N)]) 142, .row 3 1 (some gT) n n (ts.map iv), .row 3 1 (some gF) N N (List.replicate N (iv 0))]
def newT (arcs : List Arc) (k : Nat) : List Int := (arcs.take k).map Arc.start ++ List.replicate (arcs.length - k) 0
theorem newT_zero (arcs : List Arc) : (newT arcs 0).map iv = List.replicate arcs.length (iv 0) := by simp [newT]
theorem newT_len (arcs : List Arc) (k : Nat) (hk : k ≤ arcs.length) : (newT arcs k).length = arcs.length := by simp [newT]; omega
theorem newT_step {arcs : List Arc} {k : Nat} (hk : k < arcs.length) : (newT arcs k).set k arcs[k].start = newT arcs (k + 1) := by
  unfold newT
  have h1 : ((arcs.take k).map Arc.start).length = k := by simp; omega
  rw [List.set_append_right _ _ (by omega), h1, Nat.sub_self, show arcs.length - k = (arcs.length - (k + 1)) + 1 by omega, List.replicate_succ, List.set_cons_zero, take_succ' hk, List.map_append, List.map_singleton, List.append_assoc]
  rfl
theorem newT_all (arcs : List Arc) (N : Nat) : newT arcs arcs.length = toksOf arcs (List.replicate N 0) := by
  have : ∀ i : Nat, (List.replicate N (0 : Int)).getD i 0 = 0 := fun i => by
    rw [List.getD_eq_getElem?_getD, List.getElem?_replicate]
    split <;> rfl
  simp only [newT, List.take_length, Nat.sub_self, List.replicate_zero, List.append_nil, toksOf]
  exact List.map_congr_left fun a _ => by unfold tokOf; rw [this, this]; omega
theorem st_of {h : Hp} {gt gf : Nat} {t f : List Int} (h1 : h gt = some (numCells t)) (h2 : h gf = some (numCells f)) : h = st ((h.del gt).del gf) gt gf t f := by
  funext j
  unfold st
  by_cases e2 : j = gf
  · subst e2; rw [Hp.put_same]; exact h2
  · rw [Hp.put_ne _ _ e2]
    by_cases e1 : j = gt
    · subst e1; rw [Hp.put_same]; exact h1
    · rw [Hp.put_ne _ _ e1, Hp.del_ne _ e2, Hp.del_ne _ e1]
theorem RowAt.full {h : Hp} {n : Nat} {g : Addr} {l : List Int} (x : RowAt h 3 1 (some g) n n (l.map iv)) : ∃ b, g = ⟨b, 0, none⟩ ∧ h b = some (numCells l) := by
  rcases x.2 with ⟨q, _⟩ | ⟨b, cur, q1, q2, _, _, q5, q6⟩
  · cases q
  · injection q1 with q1
    refine ⟨b, q1, ?_⟩
    have : cur.toList = l.map iv := by
      rw [← q6, List.take_of_length_le (by rw [Array.length_toList]; omega)]
    rw [q2, numCells, ← this]
/-- What New answers. -/
def NewAt (h : Hp) (N : Nat) (arcs : List Arc) (r : Value) (h' : Hp) : Prop :=
  ∃ hF b gt gf, r = .tuple #[ptr b, iv 0] ∧ h.le hF ∧ Web hF b gt gf N arcs ∧ h' = st hF gt gf (toksOf arcs (List.replicate N 0)) (List.replicate N 0)
theorem newEnd (e : Env) (h h1 : Hp) (N n : Nat) (arcs : List Arc) (Aa Ai Ao : Option Addr) (ca' ci co : Nat) (gT gF : Addr) (hn : arcs.length = n) (hle : h.le h1) (h5 : e 5 = .p 0 0)
    (hw : ∃ I O, Tab h1 5 Aa arcs.length (arcs.map Arc.cells) ∧ Tab h1 1 Ai N (slcRows N (fun v => (ins arcs v).length) I) ∧
    Tab h1 1 Ao N (slcRows N (fun v => (outs arcs v).length) O) ∧ (∀ v, v < N → Tab h1 1 (I v).1 (ins arcs v).length (idxRows (ins arcs v))) ∧ ∀ v, v < N → Tab h1 1 (O v).1 (outs arcs v).length (idxRows (outs arcs v))) :
    wpIR Tryz.prog 42 ((IR.reg ir74_r11).seq IR.ret) (wpEnd Tryz.prog Tryz.f74.results.toList fun r h' => NewAt h N arcs r h') e (newL [.slice Aa arcs.length ca', .slice Ai N ci, .slice Ao N co] n N gT gF (newT arcs n)) h1 := by
  subst hn
  obtain ⟨I, O, w1, w2, w3, w4, w5⟩ := hw
  have he : e = upd e 5 (.p 0 0) := by
    funext t
    unfold upd
    by_cases q : t = 5
    · subst q; exact h5
    · rw [show Nat.beq t 5 = false from Bool.eq_false_iff.2 fun k => q (Nat.eq_of_beq_eq_true k)]; rfl
  rw [he]
  conv => whnf
  refine .mk fun b hb => ?_
  conv => whnf
  refine .pub 1 3 1 (some gT) arcs.length arcs.length _ rfl fun h2 hle2 hr2 hf2 => .pub 2 3 1 (some gF) N N _ rfl fun h3 hle3 hr3 hf3 => .done ?_
  have hz : List.replicate N (iv 0) = (List.replicate N (0 : Int)).map iv := by simp
  rw [hz] at hr3
  obtain ⟨gt, rfl, q2⟩ := hr2.full
  obtain ⟨gf, rfl, q3⟩ := hr3.full
  have n2 := hf2 _ rfl
  have n3 := hf3 _ rfl
  have b2 : h2 b = _ := hle2 _ _ put_at
  have b3 := hle3 _ _ b2
  have t3 := hle3 _ _ q2
  have nbt : b ≠ gt := fun q => by subst q; rw [show (⟨b, 0, none⟩ : Addr).block = b from rfl, put_at] at n2; cases n2
  have nbf : b ≠ gf := fun q => by subst q; rw [show (⟨b, 0, none⟩ : Addr).block = b from rfl, b2] at n3; cases n3
  have ntf : gt ≠ gf := fun q => by subst q; rw [show (⟨gt, 0, none⟩ : Addr).block = gt from rfl, q2] at n3; cases n3
  have lF : h1.le ((h3.del gt).del gf) := fun j o q => by
    have e1 : j ≠ gt := fun k => by subst k; cases (Hp.le_put hb _ _ q).symm.trans n2
    have p2 := hle2 _ _ (Hp.le_put hb _ _ q)
    have e2 : j ≠ gf := fun k => by subst k; cases p2.symm.trans n3
    rw [Hp.del_ne _ e2, Hp.del_ne _ e1]
    exact hle3 _ _ p2
  refine ⟨(h3.del gt).del gf, b, gt, gf, rfl, Hp.le_trans hle lF, ⟨Aa, Ai, Ao, ca', ci, co, I, O, ?_, w1.mono lF, w2.mono lF, w3.mono lF, fun v hv => (w4 v hv).mono lF, fun v hv => (w5 v hv).mono lF, ?_, Hp.del_same _ _, ntf⟩, ?_⟩
  · rw [Hp.del_ne _ nbf, Hp.del_ne _ nbt, b3]
  · rw [Hp.del_ne _ ntf, Hp.del_same]
  · rw [← newT_all]; exact st_of t3 q3
theorem newLoop (Q : Post) (e : Env) (L : List LE) (h : Hp) (perm : List Nat) (N n ca : Nat) (arcs : List Arc) (A : Option Addr) (va vb vc : Value) (gT gF : Addr) (hs : chk N arcs = 0) (hn : arcs.length = n) (ht : Tab h 5 A n (arcs.map Arc.cells))
    (he : [5, 25, 26, 27].map e = ([.p 0 0, .v (.slice A n ca), .v (iv n), .v (iv (0 : Nat))] : List SV).map (renS perm)) (hd : diffB perm = true)
    (hL : pickL L perm = some (([.own ([va, vb, vc].map .v ++ [.v (.slice (some gT) n n), .v (.slice (some gF) N N)]) 142, .row 3 1 (some gT) n n (List.replicate n (iv 0)), .row 3 1 (some gF) N N (List.replicate N (iv 0))] : List LE).map (renLE perm)))
    (hQ : ∀ e, e 5 = .p 0 0 → Q (.exit 0) e (newL [va, vb, vc] n N gT gF (newT arcs n)) h) :
    EvLoop (fun Q e L h => wpIR Tryz.prog 42 ir74_l1 Q e L h) Q e L h := by
  subst hn
  have hsz := (chk_zero hs).2.2.1
  rw [← newT_zero] at hL
  refine .mkP perm Nat [5, 25, 26, 27] (fun k => [.p 0 0, .v (.slice A arcs.length ca), .v (iv arcs.length), .v (iv k)]) (fun k => newL [va, vb, vc] arcs.length N gT gF (newT arcs k))
    (fun k h' => h' = h ∧ k ≤ arcs.length) (fun k => arcs.length - k) 0 (fun _ => rfl) ⟨rfl, Nat.zero_le _⟩ he hd hL ?_
  rintro k e h' ⟨rfl, hk⟩
  conv => whnf
  refine br_dec (fun h1 => ?_) (fun h1 => ?_)
  · have hi : k < arcs.length := by omega
    obtain ⟨g, hg⟩ := ht.ad (by omega)
    conv => whnf
    refine .mk g hg (by omega) (by omega) ?_
    conv => whnf
    refine .hp arcs[k].cells rfl (by rw [Int.toNat_natCast]; exact ht.row hg (map_get hi)) ?_
    conv => whnf
    refine .mk gT rfl (by omega) (by omega) ?_
    conv => whnf
    refine .row 1 3 1 gT arcs.length arcs.length _ _ k rfl (by rw [Int.toNat_natCast, Nat.mul_one]) (over_one _ _ _ (by simp only [List.length_map, newT_len arcs k hk]; exact hi)) ?_
    conv => whnf
    refine .ok (by omega) (by omega) ?_
    conv => whnf
    refine ⟨k + 1, rfl, ?_, ⟨rfl, hi⟩, by show arcs.length - (k + 1) < arcs.length - k; omega⟩
    rw [← newT_step hi]
    show _ = newL [va, vb, vc] arcs.length N gT gF ((newT arcs k).set k arcs[k].start)
    rw [newL, List.map_set]
    rfl
  · have : k = arcs.length := by omega
    subst this
    conv => whnf
    exact hQ _ rfl
theorem new16_bad (N : Int) (n ca : Nat) (arcs : List Arc) (A : Option Addr) (h : Hp) (ht : Tab h 5 A n (arcs.map Arc.cells)) (hn : n * 40 ≤ 140737488355328) (hs : chk N arcs ≠ 0) :
    Fn Tryz.prog 74 #[netV N A n ca] h fun r h' => r = .tuple #[.pointer none, iv (chk N arcs)] ∧ h' = h := by
  refine Fn.intro (args := [netV N A n ca]) mix14 Tryz.func74 rfl (by decide) Tryz.ntmps74 rfl (low74 rfl) rfl ?_
  conv => whnf
  refine .done (.mk _ (check19 N A n ca arcs h ht (by omega)) ?_)
  rintro _ h' ⟨rfl, rfl⟩
  conv => whnf
  refine br_dec (fun h1 => ?_) (fun h1 => absurd h1 (by simpa using hs))
  conv => whnf
  exact .done ⟨rfl, rfl⟩
theorem new16 (N n ca : Nat) (arcs : List Arc) (A : Option Addr) (h : Hp) (ht : Tab h 5 A n (arcs.map Arc.cells)) (hn : n * 40 ≤ 140737488355328) (hs : chk N arcs = 0) :
    Fn Tryz.prog 74 #[netV N A n ca] h fun r h' => NewAt h N arcs r h' := by
  have hlen : arcs.length = n := by simpa using ht.len
  have hb := (chk_zero hs).2.1
  refine Fn.intro (args := [netV N A n ca]) mix14 Tryz.func74 rfl (by decide) Tryz.ntmps74 rfl (low74 rfl) rfl ?_
  conv => whnf
  refine .done (.mk _ (check19 N A n ca arcs h ht (by omega)) ?_)
  rintro _ h ⟨rfl, rfl⟩
  conv => whnf
  refine br_dec (fun h1 => absurd hs (by simpa using h1)) (fun h1 => ?_)
  · conv => whnf
    refine And.intro ?_ ?_
    · conv => whnf
      refine .mk _ (weave23 N n ca arcs A _ hs ht hn) (fun _ _ q => q.1) ?_
      rintro _ h1 ⟨hle, Aa, Ai, Ao, c1, ci, co, I, O, rfl, w1, w2, w3, w4, w5⟩
      conv => whnf
      refine And.intro ?_ ?_
      · conv => whnf
        refine EvMake.one n (iv 0) rfl rfl rfl rfl (by omega) (by omega) fun gT => ?_
        conv => whnf
        refine EvMake.one N (iv 0) rfl rfl rfl rfl (by omega) (by omega) fun gF => ?_
        conv => whnf
        exact newLoop _ _ _ h1 [3, 1, 2] N n ca arcs A (.slice Aa arcs.length c1) (.slice Ai N ci) (.slice Ao N co) gT gF hs hlen (ht.mono hle) rfl rfl rfl fun e h5 => newEnd e h h1 N n arcs Aa Ai Ao c1 ci co gT gF hlen hle h5 ⟨I, O, w1, w2, w3, w4, w5⟩
      · conv => whnf
        refine EvMake.one N (iv 0) rfl rfl rfl rfl (by omega) (by omega) fun gF => ?_
        conv => whnf
        refine EvMake.one n (iv 0) rfl rfl rfl rfl (by omega) (by omega) fun gT => ?_
        conv => whnf
        exact newLoop _ _ _ h1 [3, 2, 1] N n ca arcs A (.slice Aa arcs.length c1) (.slice Ai N ci) (.slice Ao N co) gT gF hs hlen (ht.mono hle) rfl rfl rfl fun e h5 => newEnd e h h1 N n arcs Aa Ai Ao c1 ci co gT gF hlen hle h5 ⟨I, O, w1, w2, w3, w4, w5⟩
    · conv => whnf
      refine And.intro ?_ ?_
      · conv => whnf
        refine EvMake.one n (iv 0) rfl rfl rfl rfl (by omega) (by omega) fun gT => ?_
        conv => whnf
        refine And.intro ?_ ?_
        · conv => whnf
          refine .mk _ (weave23 N n ca arcs A _ hs ht hn) (fun _ _ q => q.1) ?_
          rintro _ h1 ⟨hle, Aa, Ai, Ao, c1, ci, co, I, O, rfl, w1, w2, w3, w4, w5⟩
          conv => whnf
          refine EvMake.one N (iv 0) rfl rfl rfl rfl (by omega) (by omega) fun gF => ?_
          conv => whnf
          exact newLoop _ _ _ h1 [3, 1, 2] N n ca arcs A (.slice Aa arcs.length c1) (.slice Ai N ci) (.slice Ao N co) gT gF hs hlen (ht.mono hle) rfl rfl rfl fun e h5 => newEnd e h h1 N n arcs Aa Ai Ao c1 ci co gT gF hlen hle h5 ⟨I, O, w1, w2, w3, w4, w5⟩
        · conv => whnf
          refine EvMake.one N (iv 0) rfl rfl rfl rfl (by omega) (by omega) fun gF => ?_
          conv => whnf
          refine .mk _ (weave23 N n ca arcs A _ hs ht hn) (fun _ _ q => q.1) ?_
          rintro _ h1 ⟨hle, Aa, Ai, Ao, c1, ci, co, I, O, rfl, w1, w2, w3, w4, w5⟩
          conv => whnf
          exact newLoop _ _ _ h1 [3, 1, 2] N n ca arcs A (.slice Aa arcs.length c1) (.slice Ai N ci) (.slice Ao N co) gT gF hs hlen (ht.mono hle) rfl rfl rfl fun e h5 => newEnd e h h1 N n arcs Aa Ai Ao c1 ci co gT gF hlen hle h5 ⟨I, O, w1, w2, w3, w4, w5⟩
      · conv => whnf
        refine EvMake.one N (iv 0) rfl rfl rfl rfl (by omega) (by omega) fun gF => ?_
        conv => whnf
        refine And.intro ?_ ?_
        · conv => whnf
          refine .mk _ (weave23 N n ca arcs A _ hs ht hn) (fun _ _ q => q.1) ?_
          rintro _ h1 ⟨hle, Aa, Ai, Ao, c1, ci, co, I, O, rfl, w1, w2, w3, w4, w5⟩
          conv => whnf
          refine EvMake.one n (iv 0) rfl rfl rfl rfl (by omega) (by omega) fun gT => ?_
          conv => whnf
          exact newLoop _ _ _ h1 [3, 2, 1] N n ca arcs A (.slice Aa arcs.length c1) (.slice Ai N ci) (.slice Ao N co) gT gF hs hlen (ht.mono hle) rfl rfl rfl fun e h5 => newEnd e h h1 N n arcs Aa Ai Ao c1 ci co gT gF hlen hle h5 ⟨I, O, w1, w2, w3, w4, w5⟩
        · conv => whnf
          refine EvMake.one n (iv 0) rfl rfl rfl rfl (by omega) (by omega) fun gT => ?_
          conv => whnf
          refine .mk _ (weave23 N n ca arcs A _ hs ht hn) (fun _ _ q => q.1) ?_
          rintro _ h1 ⟨hle, Aa, Ai, Ao, c1, ci, co, I, O, rfl, w1, w2, w3, w4, w5⟩
          conv => whnf
          exact newLoop _ _ _ h1 [3, 2, 1] N n ca arcs A (.slice Aa arcs.length c1) (.slice Ai N ci) (.slice Ao N co) gT gF hs hlen (ht.mono hle) rfl rfl rfl fun e h5 => newEnd e h h1 N n arcs Aa Ai Ao c1 ci co gT gF hlen hle h5 ⟨I, O, w1, w2, w3, w4, w5⟩
end Go.Sx
