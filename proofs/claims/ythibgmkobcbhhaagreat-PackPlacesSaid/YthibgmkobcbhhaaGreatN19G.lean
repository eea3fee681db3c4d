/- Layer 19: what arcs have now, and one node that fires. Conditions: none. -/
import Derived.Test.YthibgmkobcbhhaaGreatN19C
namespace Go.Sx
open Go.Proofs
set_option maxRecDepth 100000
theorem run_good {N : Nat} {arcs : List Arc} (hs : chk N arcs = 0) : ∀ (zs : List Int) (f : List Int) (T : Nat), Good N arcs f T → Good N arcs (fireRun N arcs zs f).2 (T + zs.length)
  | [], f, T, g => g
  | v :: zs, f, T, g => by
    unfold fireRun
    split
    · rename_i hm
      obtain ⟨u, rfl, _⟩ := may_out hm
      have := run_good hs zs (bump f u) (T + 1) (g.bump hs hm)
      rw [List.length_cons, show T + (zs.length + 1) = T + 1 + zs.length by omega]
      exact this
    · exact ⟨g.len, fun x hx => by have := g.lo x hx; omega, g.tok⟩
theorem good_zero {N : Nat} {arcs : List Arc} (hs : chk N arcs = 0) : Good N arcs (List.replicate N 0) 0 := by
  refine ⟨by simp, fun x hx => by rw [List.eq_of_mem_replicate hx]; simp, fun a ha => ?_⟩
  have hok := okArc_zero ((chk_zero hs).2.2.2 a ha)
  have : ∀ i : Nat, (List.replicate N (0 : Int)).getD i 0 = 0 := fun i => by
    rw [List.getD_eq_getElem?_getD, List.getElem?_replicate]
    split <;> rfl
  unfold tokOf; rw [this, this]; omega
theorem st_other {hF : Hp} {gt gf j : Nat} {t f : List Int} (h1 : j ≠ gt) (h2 : j ≠ gf) : st hF gt gf t f j = hF j := by
  unfold st; rw [Hp.put_ne _ _ h2, Hp.put_ne _ _ h1]
/-- A state of a net: how often its nodes have fired. -/
structure At (h0 hG : Hp) (b gt gf N : Nat) (arcs : List Arc) (f : List Int) (T : Nat) : Prop where
  le : h0.le hG
  web : Web hG b gt gf N arcs
  good : Good N arcs f T
theorem At.grow {h0 hG h' : Hp} {b gt gf N T : Nat} {arcs : List Arc} {f : List Int} {t : List Int} (a : At h0 hG b gt gf N arcs f T) (x : (st hG gt gf t f).le h') : ∃ hH, h' = st hH gt gf t f ∧ At h0 hH b gt gf N arcs f T := by
  obtain ⟨Aa, Ai, Ao, ca, ci, co, I, O, w0⟩ := a.web.ex
  obtain ⟨hH, e, hle, h1, h2⟩ := st_grow w0.ne w0.freeT w0.freeF x
  exact ⟨hH, e, Hp.le_trans a.le hle, a.web.mono hle h1 h2, a.good⟩
theorem At.all {h0 hG : Hp} {b gt gf N T : Nat} {arcs : List Arc} {f t : List Int} (a : At h0 hG b gt gf N arcs f T) : h0.le (st hG gt gf t f) := by
  obtain ⟨Aa, Ai, Ao, ca, ci, co, I, O, w0⟩ := a.web.ex
  exact Hp.le_trans a.le (Hp.le_st w0.freeT w0.freeF)
theorem fireOne {h0 hG : Hp} {b gt gf N T bk : Nat} {arcs : List Arc} {f : List Int} (hs : chk N arcs = 0) (a : At h0 hG b gt gf N arcs f T) (hT : T + 1 ≤ 70368744177664) (z : Int) (hb : st hG gt gf (toksOf arcs f) f bk = none) :
    Fn Tryz.prog 76 #[ptr b, .slice (some ⟨bk, 0, none⟩) 1 1] ((st hG gt gf (toksOf arcs f) f).put bk (.cells #[iv z] 3 (0, 0))) fun r h' => r = iv (fireRun N arcs [z] f).1 ∧ ∃ hH, h' = st hH gt gf (toksOf arcs (fireRun N arcs [z] f).2) (fireRun N arcs [z] f).2 ∧ At h0 hH b gt gf N arcs (fireRun N arcs [z] f).2 (T + 1) := by
  obtain ⟨hH, e, aH⟩ := a.grow (Hp.le_put (o := .cells #[iv z] 3 (0, 0)) hb)
  obtain ⟨Aa, Ai, Ao, ca, ci, co, I, O, w0⟩ := aH.web.ex
  have hbk : hH bk = some (numCells [z]) := by
    have e1 : bk ≠ gt := fun q => by subst q; rw [st_gt w0.ne] at hb; cases hb
    have e2 : bk ≠ gf := fun q => by subst q; rw [st_gf] at hb; cases hb
    have : st hH gt gf (toksOf arcs f) f bk = some (numCells [z]) := by rw [← e]; exact put_at
    rwa [st_other e1 e2] at this
  rw [e]
  have x := fire17 aH.web hs [z] f _ 1 1 T (tab_nums hbk) aH.good hT
  refine x.mono ?_
  rintro r h' ⟨rfl, rfl⟩
  exact ⟨rfl, hH, rfl, aH.le, aH.web, run_good hs [z] f T aH.good⟩
theorem counts27 {h0 hG : Hp} {b gt gf N T : Nat} {arcs : List Arc} {f : List Int} (hs : chk N arcs = 0) (a : At h0 hG b gt gf N arcs f T) :
    Fn Tryz.prog 75 #[ptr b] (st hG gt gf (toksOf arcs f) f) fun r h' => ∃ g c, r = .slice (some g) arcs.length c ∧ (st hG gt gf (toksOf arcs f) f).le h' ∧ RowAt h' 3 1 (some g) arcs.length c ((toksOf arcs f).map iv) ∧ st hG gt gf (toksOf arcs f) f g.block = none := by
  obtain ⟨Aa, Ai, Ao, ca, ci, co, I, O, w0⟩ := a.web.ex
  have hsz := (chk_zero hs).2.2.1
  have x : hG.le (st hG gt gf (toksOf arcs f) f) := Hp.le_st w0.freeT w0.freeF
  have hgt : st hG gt gf (toksOf arcs f) f gt = some (numCells (toksOf arcs f)) := st_gt w0.ne
  have ht := tab_nums hgt
  rw [toksOf_len] at ht
  generalize hh : st hG gt gf (toksOf arcs f) f = h at x hgt ht
  refine Fn.intro (args := [ptr b]) mix14 Tryz.func75 rfl (by decide) Tryz.ntmps75 rfl (low75 rfl) rfl ?_
  conv => whnf
  refine .hp _ (Hp.cell_le x (head_cell w0.head (j := 3) rfl)) ?_
  conv => whnf
  refine .mk fun b2 hb2 => ?_
  conv => whnf
  refine .done (.old 1 _ _ rfl (ht.src _) (by rw [flat_nums]; exact nums_one _) (by simp [maxLen]; omega) (by omega) fun A' c' hA => ?_)
  conv => whnf
  refine .pub 1 3 1 A' (0 + arcs.length) c' _ rfl fun h' hle hr hf => ?_
  have hr' : RowAt h' 3 1 A' (0 + arcs.length) c' ((toksOf arcs f).map fun z => [iv z]).flatten := hr
  rw [Nat.zero_add, flat_nums] at hr'
  obtain ⟨g, rfl⟩ := some_of hA.1
  exact .done ⟨g, c', by rw [Nat.zero_add]; rfl, hle, hr', hf g rfl⟩
/-! what a list of firings gives, in plain words -/
def alongR (N : Nat) (arcs : List Arc) : List Int → List Int → Int × List (List Int)
  | [], _ => (0, [])
  | v :: l, f => if v < 0 ∨ (N : Int) ≤ v then (100, []) else if may N arcs f v = true then ((alongR N arcs l (bump f v.toNat)).1, toksOf arcs (bump f v.toNat) :: (alongR N arcs l (bump f v.toNat)).2) else (180, [])
def along (N : Int) (arcs : List Arc) (zs : List Int) : Int × List (List Int) :=
  if chk N arcs = 0 then (if 2048 < zs.length then (2, []) else ((alongR N.toNat arcs zs (List.replicate N.toNat 0)).1, toksOf arcs (List.replicate N.toNat 0) :: (alongR N.toNat arcs zs (List.replicate N.toNat 0)).2)) else (chk N arcs, [])
theorem fire_yes {N : Nat} {arcs : List Arc} {f : List Int} {v : Int} (h : may N arcs f v = true) : fireRun N arcs [v] f = (1, bump f v.toNat) := by simp [fireRun, h]
theorem fire_no {N : Nat} {arcs : List Arc} {f : List Int} {v : Int} (h : may N arcs f v = false) : fireRun N arcs [v] f = (0, f) := by simp [fireRun, h]
/-- two partial heaps have no block in common -/
def Disj (K X : Hp) : Prop := ∀ j, X j ≠ none → K j = none
def Hp.empty : Hp := fun _ => none
theorem Disj.empty (K : Hp) : Disj K Hp.empty := fun _ h => absurd rfl h
theorem Hp.le_empty (h : Hp) : Hp.empty.le h := fun _ _ e => by cases e
/-- What a step function must do with the rows so far (in memory of their own, X) and one more. -/
def NextOk (f : FuncId) (R : List (List Int) → Value → Hp → Prop) (M n : Nat) : Prop :=
  ∀ rows v X h g c toks, rows.length ≤ M → R rows v X → X.le h → X g.block = none → RowAt h 3 1 (some g) n c (toks.map iv) → toks.length = n →
    Fn Tryz.prog f #[v, .slice (some g) n c] h fun r h' => ∃ X', R (rows ++ [toks]) r X' ∧ X'.le h' ∧ ∀ K, K.le h → Disj K X → K g.block = none → K.le h' ∧ Disj K X'
end Go.Sx
namespace Go.Sx
open Go.Proofs
set_option maxRecDepth 100000
theorem st_mono {hF hG : Hp} {gt gf : Nat} {t f : List Int} (x : hF.le hG) : (st hF gt gf t f).le (st hG gt gf t f) := fun j o e => by
  unfold st at e ⊢
  by_cases e2 : j = gf
  · subst e2; rw [Hp.put_same] at e ⊢; exact e
  · rw [Hp.put_ne _ _ e2] at e ⊢
    by_cases e1 : j = gt
    · subst e1; rw [Hp.put_same] at e ⊢; exact e
    · rw [Hp.put_ne _ _ e1] at e ⊢; exact x j o e
theorem le_none {a b : Hp} (x : a.le b) {j : Nat} (h : b j = none) : a j = none := by
  cases e : a j with
  | none => rfl
  | some o => rw [x j o e] at h; cases h
theorem Disj.mono {a b X : Hp} (x : a.le b) (d : Disj b X) : Disj a X := fun j h => le_none x (d j h)
/-- what the loop of 'over' keeps -/
structure Ov (h0 hF hG X : Hp) (b gt gf N : Nat) (arcs : List Arc) (f : List Int) (k : Nat) : Prop where
  at_ : At h0 hF b gt gf N arcs f k
  le : hF.le hG
  sub : X.le hG
  dis : Disj hF X
  fT : hG gt = none
  fF : hG gf = none
theorem Ov.atG {h0 hF hG X : Hp} {b gt gf N k : Nat} {arcs : List Arc} {f : List Int} (o : Ov h0 hF hG X b gt gf N arcs f k) : At h0 hG b gt gf N arcs f k :=
  ⟨Hp.le_trans o.at_.le o.le, o.at_.web.mono o.le o.fT o.fF, o.at_.good⟩
theorem Ov.free {h0 hF hG X : Hp} {b gt gf N k : Nat} {arcs : List Arc} {f : List Int} (o : Ov h0 hF hG X b gt gf N arcs f k) : hF gt = none ∧ hF gf = none ∧ gt ≠ gf := by
  obtain ⟨Aa, Ai, Ao, ca, ci, co, I, O, w0⟩ := o.at_.web.ex
  exact ⟨w0.freeT, w0.freeF, w0.ne⟩
theorem Ov.step {h0 hF hG X h1 h2 X' : Hp} {b gt gf N k g : Nat} {arcs : List Arc} {f t : List Int} (o : Ov h0 hF hG X b gt gf N arcs f k) (hc : (st hG gt gf t f).le h1) (hg : st hG gt gf t f g = none) (hX : X'.le h2)
    (hk : ∀ K, K.le h1 → Disj K X → K g = none → K.le h2 ∧ Disj K X') : ∃ hG2, h2 = st hG2 gt gf t f ∧ Ov h0 hF hG2 X' b gt gf N arcs f k := by
  obtain ⟨f1, f2, hne⟩ := o.free
  have xT : X gt = none := le_none o.sub o.fT
  have xF : X gf = none := le_none o.sub o.fF
  have kd : Disj (st hF gt gf t f) X := fun j hj => by
    have e1 : j ≠ gt := fun q => hj (q ▸ xT)
    have e2 : j ≠ gf := fun q => hj (q ▸ xF)
    rw [st_other e1 e2]; exact o.dis j hj
  obtain ⟨k1, k2⟩ := hk (st hF gt gf t f) (Hp.le_trans (st_mono o.le) hc) kd (le_none (st_mono o.le) hg)
  obtain ⟨hG2, e, l, q1, q2⟩ := st_grow hne f1 f2 k1
  refine ⟨hG2, e, o.at_, l, fun j ob ej => ?_, Disj.mono (Hp.le_st f1 f2) k2, q1, q2⟩
  have h3 := hX j ob ej
  have hj : st hF gt gf t f j = none := k2 j (by rw [ej]; simp)
  have e1 : j ≠ gt := fun q => by subst q; rw [st_gt hne] at hj; cases hj
  have e2 : j ≠ gf := fun q => by subst q; rw [st_gf] at hj; cases hj
  rw [e, st_other e1 e2] at h3; exact h3
theorem Ov.fire {h0 hF hG X hH : Hp} {b gt gf N k : Nat} {arcs : List Arc} {f f2 : List Int} (o : Ov h0 hF hG X b gt gf N arcs f k) (a : At hG hH b gt gf N arcs f2 (k + 1)) : Ov h0 hF hH X b gt gf N arcs f2 (k + 1) := by
  obtain ⟨Aa, Ai, Ao, ca, ci, co, I, O, w0⟩ := a.web.ex
  exact ⟨⟨o.at_.le, o.at_.web, a.good⟩, Hp.le_trans o.le a.le, Hp.le_trans o.sub a.le, o.dis, w0.freeT, w0.freeF⟩
def OverOk (h : Hp) (N : Int) (arcs : List Arc) (zs : List Int) (z : Value) (R : List (List Int) → Value → Hp → Prop) (r : Value) (h' : Hp) : Prop :=
  h.le h' ∧ ((along N arcs zs).1 ≠ 0 → r = .tuple #[z, iv (along N arcs zs).1]) ∧ ((along N arcs zs).1 = 0 → ∃ v X, r = .tuple #[v, iv 0] ∧ R (along N arcs zs).2 v X ∧ X.le h' ∧ Disj h X)
theorem along_bad {N : Int} {arcs : List Arc} {zs : List Int} (h : chk N arcs ≠ 0) : along N arcs zs = (chk N arcs, []) := by rw [along, if_neg h]
theorem along_long {N : Int} {arcs : List Arc} {zs : List Int} (h : chk N arcs = 0) (h2 : 2048 < zs.length) : along N arcs zs = (2, []) := by rw [along, if_pos h, if_pos h2]
theorem along_ok {N : Nat} {arcs : List Arc} {zs : List Int} (h : chk N arcs = 0) (h2 : ¬ 2048 < zs.length) : along N arcs zs = ((alongR N arcs zs (List.replicate N 0)).1, toksOf arcs (List.replicate N 0) :: (alongR N arcs zs (List.replicate N 0)).2) := by rw [along, if_pos h, if_neg h2]; rfl
end Go.Sx
namespace Go.Sx
open Go.Proofs
set_option maxRecDepth 100000
theorem over29 (fn : FuncId) (R : List (List Int) → Value → Hp → Prop) (N : Int) (n cap : Nat) (arcs : List Arc) (A D : Option Addr) (r cap2 : Nat) (zs : List Int) (h : Hp) (ht : Tab h 5 A n (arcs.map Arc.cells)) (hn : n * 40 ≤ 140737488355328) (hz : Tab h 1 D r (zs.map fun z => [iv z]))
    (hR : R [] (.slice none 0 0) Hp.empty) (hN : NextOk fn R 2048 arcs.length) :
    Fn Tryz.prog 71 #[netV N A n cap, .slice D r cap2, .slice none 0 0, .func (.func fn) #[] #[]] h fun v h' => OverOk h N arcs zs (.slice none 0 0) R v h' := by
  have hzl : zs.length = r := by simpa using hz.len
  refine Fn.intro (args := [netV N A n cap, .slice D r cap2, .slice none 0 0, .func (.func fn) #[] #[]]) mix14 Tryz.func71 rfl (by decide) Tryz.ntmps71 rfl (low71 rfl) rfl ?_
  by_cases hs : chk N arcs = 0
  · have hNb := chk_zero hs
    obtain ⟨N, rfl⟩ : ∃ q : Nat, N = q := ⟨N.toNat, by omega⟩
    conv => whnf
    refine .done (.mk _ (new16 N n cap arcs A h ht hn hs) ?_)
    rintro _ _ ⟨hF, b, gt, gf, rfl, hleF, web, rfl⟩
    obtain ⟨Aa, Ai, Ao, ca, ci, co, I, O, w0⟩ := web.ex
    have fT := w0.freeT
    have fF := w0.freeF
    clear w0
    conv => whnf
    refine br_dec (fun h2 => ?_) (fun h2 => ?_)
    · conv => whnf
      refine .done ⟨Hp.le_trans hleF (Hp.le_st fT fF), fun _ => ?_, fun q => ?_⟩
      · rw [along_long hs (by omega)]; rfl
      · rw [along_long hs (by omega)] at q; cases q
    have hal := along_ok (zs := zs) hs (by omega)
    have o0 : Ov h hF hF Hp.empty b gt gf N arcs (List.replicate N 0) 0 := ⟨⟨hleF, web, good_zero hs⟩, Hp.le_refl _, Hp.le_empty _, Disj.empty _, fT, fF⟩
    conv => whnf
    refine .done (.mk _ (counts27 hs o0.atG) ?_)
    rintro _ h1 ⟨g, c, rfl, hle1, hr1, hg1⟩
    conv => whnf
    refine .done (.mk _ (hN [] _ _ h1 g c _ (Nat.zero_le _) hR (Hp.le_empty _) rfl hr1 (toksOf_len _ _)) ?_)
    rintro v h2 ⟨X, hX, hXl, hk⟩
    obtain ⟨hG, rfl, o1⟩ := o0.step hle1 hg1 hXl hk
    conv => whnf
    refine .mk (Nat × Hp × Hp × Value × List Int × List (List Int)) [3, 4, 10, 11, 13, 34, 35, 36] (fun (k, _, _, v, _, _) => [.v (.func (.func fn) #[] #[]), .p 0 0, .v (.slice none 0 0), .v (ptr b), .v v, .v (.slice D r cap2), .v (iv r), .v (iv k)]) (fun _ => [.own [.v (iv N), .v (.slice A n cap)] 24])
      (fun (k, hG, X, v, f, rows) h' => h' = st hG gt gf (toksOf arcs f) f ∧ Ov h hF hG X b gt gf N arcs f k ∧ R rows v X ∧ rows.length = k + 1 ∧ k ≤ r ∧ (alongR N arcs zs (List.replicate N 0)).1 = (alongR N arcs (zs.drop k) f).1 ∧
        toksOf arcs (List.replicate N 0) :: (alongR N arcs zs (List.replicate N 0)).2 = rows ++ (alongR N arcs (zs.drop k) f).2) (fun (k, _, _, _, _, _) => r - k) (0, hG, X, v, List.replicate N 0, [toksOf arcs (List.replicate N 0)]) (fun (_, _, _, _, _, _) => rfl)
      ⟨rfl, o1, hX, rfl, Nat.zero_le _, rfl, rfl⟩ rfl rfl ?_
    rintro ⟨k, hG, X, v, f, rows⟩ e h' ⟨rfl, o, hX, hrl, hk, hr1, hr2⟩
    conv => whnf
    refine br_dec (fun h3 => ?_) (fun h3 => ?_)
    · have hk' : k < r := by omega
      have hdrop : zs.drop k = zs[k] :: zs.drop (k + 1) := List.drop_eq_getElem_cons (by omega)
      obtain ⟨g, hg⟩ := hz.ad (by omega)
      rw [hdrop, alongR] at hr1 hr2
      have bad : ∀ z : Int, z ≠ 0 → (alongR N arcs zs (List.replicate N 0)).1 = z → OverOk h N arcs zs (.slice none 0 0) R (.tuple #[.slice none 0 0, iv z]) (st hG gt gf (toksOf arcs f) f) := fun z hz e => by
        refine ⟨o.atG.all, fun _ => ?_, fun q => ?_⟩
        · rw [hal]; show _ = Value.tuple #[_, iv (alongR N arcs zs (List.replicate N 0)).1]; rw [e]
        · rw [hal] at q; exact absurd (e.symm.trans q) hz
      conv => whnf
      refine .mk g hg (by omega) (by omega) ?_
      conv => whnf
      refine .hp (iv zs[k]) (by rw [Int.toNat_natCast]; exact (hz.mono o.atG.all).one hg (r := [iv zs[k]]) (by simp [hzl, hk']) rfl) ?_
      conv => whnf
      refine br_dec (fun h4 => ?_) (fun h4 => ?_)
      · rw [if_pos (.inl h4)] at hr1
        conv => whnf
        exact .done (bad 100 (by decide) hr1)
      conv => whnf
      refine br_dec (fun h5 => ?_) (fun h5 => ?_)
      · rw [if_pos (.inr h5)] at hr1
        conv => whnf
        exact .done (bad 100 (by decide) hr1)
      rw [if_neg (by omega)] at hr1 hr2
      conv => whnf
      refine .mk fun bk hbk => ?_
      have aG : At hG hG b gt gf N arcs f k := ⟨Hp.le_refl _, o.atG.web, o.atG.good⟩
      conv => whnf
      refine .done (.mk _ (fireOne hs aG (by omega) zs[k] hbk) ?_)
      rintro _ _ ⟨rfl, hH, rfl, aH⟩
      cases hm : may N arcs f zs[k] with
      | false =>
        rw [hm, if_neg (by simp)] at hr1
        rw [fire_no hm] at aH ⊢
        conv => whnf
        refine .done ⟨(o.fire aH).atG.all, fun _ => ?_, fun q => ?_⟩
        · rw [hal]; show _ = Value.tuple #[_, iv (alongR N arcs zs (List.replicate N 0)).1]; rw [hr1]; rfl
        · rw [hal] at q; rw [show (alongR N arcs zs (List.replicate N 0)).1 = 0 from q] at hr1; cases hr1
      | true =>
        rw [hm, if_pos rfl] at hr1 hr2
        rw [fire_yes hm] at aH ⊢
        have o2 := o.fire aH
        conv => whnf
        refine .done (.mk _ (counts27 hs o2.atG) ?_)
        rintro _ h1 ⟨g, c, rfl, hle1, hr3, hg1⟩
        conv => whnf
        refine .done (.mk _ (hN rows _ X h1 g c _ (by omega) hX (Hp.le_trans o2.sub (Hp.le_trans (Hp.le_st o2.fT o2.fF) hle1)) (le_none (Hp.le_trans o2.sub (Hp.le_st o2.fT o2.fF)) hg1) hr3 (toksOf_len _ _)) ?_)
        rintro v h2 ⟨X2, hX2, hXl, hk2⟩
        obtain ⟨hG2, rfl, o3⟩ := o2.step hle1 hg1 hXl hk2
        conv => whnf
        refine .ok (by omega) (by omega) ?_
        conv => whnf
        refine ⟨(k + 1, hG2, X2, v, bump f zs[k].toNat, rows ++ [toksOf arcs (bump f zs[k].toNat)]), rfl, rfl, ⟨rfl, o3, hX2, by simp [hrl], hk', hr1, ?_⟩, by show r - (k + 1) < r - k; omega⟩
        rw [hr2]; simp
    · rw [List.drop_eq_nil_of_le (by omega), alongR] at hr1 hr2
      conv => whnf
      refine .done ⟨o.atG.all, fun q => ?_, fun _ => ⟨v, X, rfl, ?_, Hp.le_trans o.sub (Hp.le_st o.fT o.fF), Disj.mono o.at_.le o.dis⟩⟩
      · rw [hal] at q; exact absurd hr1 q
      · rw [hal]; show R (_ :: _) v X; rw [hr2]; simpa using hX
  · conv => whnf
    refine .done (.mk _ (new16_bad N n cap arcs A h ht hn hs) ?_)
    rintro _ h2 ⟨rfl, rfl⟩
    conv => whnf
    refine br_dec (fun h1 => ?_) (fun h1 => absurd h1 (by simpa using hs))
    conv => whnf
    refine .done ⟨Hp.le_refl _, fun _ => ?_, fun q => ?_⟩
    · rw [along_bad hs]; rfl
    · rw [along_bad hs] at q; exact absurd q hs
theorem over37 (fn : FuncId) (R : List (List Int) → Value → Hp → Prop) (N : Int) (n cap : Nat) (arcs : List Arc) (A D : Option Addr) (r cap2 : Nat) (zs : List Int) (h : Hp) (ht : Tab h 5 A n (arcs.map Arc.cells)) (hn : n * 40 ≤ 140737488355328) (hz : Tab h 1 D r (zs.map fun z => [iv z]))
    (hR : R [] (.slice none 0 0) Hp.empty) (hN : NextOk fn R 2048 arcs.length) :
    Fn Tryz.prog 52 #[netV N A n cap, .slice D r cap2, .slice none 0 0, .func (.func fn) #[] #[]] h fun v h' => OverOk h N arcs zs (.slice none 0 0) R v h' := by
  have hzl : zs.length = r := by simpa using hz.len
  refine Fn.intro (args := [netV N A n cap, .slice D r cap2, .slice none 0 0, .func (.func fn) #[] #[]]) mix14 Tryz.func52 rfl (by decide) Tryz.ntmps52 rfl (low52 rfl) rfl ?_
  by_cases hs : chk N arcs = 0
  · have hNb := chk_zero hs
    obtain ⟨N, rfl⟩ : ∃ q : Nat, N = q := ⟨N.toNat, by omega⟩
    conv => whnf
    refine .done (.mk _ (new16 N n cap arcs A h ht hn hs) ?_)
    rintro _ _ ⟨hF, b, gt, gf, rfl, hleF, web, rfl⟩
    obtain ⟨Aa, Ai, Ao, ca, ci, co, I, O, w0⟩ := web.ex
    have fT := w0.freeT
    have fF := w0.freeF
    clear w0
    conv => whnf
    refine br_dec (fun h2 => ?_) (fun h2 => ?_)
    · conv => whnf
      refine .done ⟨Hp.le_trans hleF (Hp.le_st fT fF), fun _ => ?_, fun q => ?_⟩
      · rw [along_long hs (by omega)]; rfl
      · rw [along_long hs (by omega)] at q; cases q
    have hal := along_ok (zs := zs) hs (by omega)
    have o0 : Ov h hF hF Hp.empty b gt gf N arcs (List.replicate N 0) 0 := ⟨⟨hleF, web, good_zero hs⟩, Hp.le_refl _, Hp.le_empty _, Disj.empty _, fT, fF⟩
    conv => whnf
    refine .done (.mk _ (counts27 hs o0.atG) ?_)
    rintro _ h1 ⟨g, c, rfl, hle1, hr1, hg1⟩
    conv => whnf
    refine .done (.mk _ (hN [] _ _ h1 g c _ (Nat.zero_le _) hR (Hp.le_empty _) rfl hr1 (toksOf_len _ _)) ?_)
    rintro v h2 ⟨X, hX, hXl, hk⟩
    obtain ⟨hG, rfl, o1⟩ := o0.step hle1 hg1 hXl hk
    conv => whnf
    refine .mk (Nat × Hp × Hp × Value × List Int × List (List Int)) [3, 4, 10, 11, 13, 34, 35, 36] (fun (k, _, _, v, _, _) => [.v (.func (.func fn) #[] #[]), .p 0 0, .v (.slice none 0 0), .v (ptr b), .v v, .v (.slice D r cap2), .v (iv r), .v (iv k)]) (fun _ => [.own [.v (iv N), .v (.slice A n cap)] 24])
      (fun (k, hG, X, v, f, rows) h' => h' = st hG gt gf (toksOf arcs f) f ∧ Ov h hF hG X b gt gf N arcs f k ∧ R rows v X ∧ rows.length = k + 1 ∧ k ≤ r ∧ (alongR N arcs zs (List.replicate N 0)).1 = (alongR N arcs (zs.drop k) f).1 ∧
        toksOf arcs (List.replicate N 0) :: (alongR N arcs zs (List.replicate N 0)).2 = rows ++ (alongR N arcs (zs.drop k) f).2) (fun (k, _, _, _, _, _) => r - k) (0, hG, X, v, List.replicate N 0, [toksOf arcs (List.replicate N 0)]) (fun (_, _, _, _, _, _) => rfl)
      ⟨rfl, o1, hX, rfl, Nat.zero_le _, rfl, rfl⟩ rfl rfl ?_
    rintro ⟨k, hG, X, v, f, rows⟩ e h' ⟨rfl, o, hX, hrl, hk, hr1, hr2⟩
    conv => whnf
    refine br_dec (fun h3 => ?_) (fun h3 => ?_)
    · have hk' : k < r := by omega
      have hdrop : zs.drop k = zs[k] :: zs.drop (k + 1) := List.drop_eq_getElem_cons (by omega)
      obtain ⟨g, hg⟩ := hz.ad (by omega)
      rw [hdrop, alongR] at hr1 hr2
      have bad : ∀ z : Int, z ≠ 0 → (alongR N arcs zs (List.replicate N 0)).1 = z → OverOk h N arcs zs (.slice none 0 0) R (.tuple #[.slice none 0 0, iv z]) (st hG gt gf (toksOf arcs f) f) := fun z hz e => by
        refine ⟨o.atG.all, fun _ => ?_, fun q => ?_⟩
        · rw [hal]; show _ = Value.tuple #[_, iv (alongR N arcs zs (List.replicate N 0)).1]; rw [e]
        · rw [hal] at q; exact absurd (e.symm.trans q) hz
      conv => whnf
      refine .mk g hg (by omega) (by omega) ?_
      conv => whnf
      refine .hp (iv zs[k]) (by rw [Int.toNat_natCast]; exact (hz.mono o.atG.all).one hg (r := [iv zs[k]]) (by simp [hzl, hk']) rfl) ?_
      conv => whnf
      refine br_dec (fun h4 => ?_) (fun h4 => ?_)
      · rw [if_pos (.inl h4)] at hr1
        conv => whnf
        exact .done (bad 100 (by decide) hr1)
      conv => whnf
      refine br_dec (fun h5 => ?_) (fun h5 => ?_)
      · rw [if_pos (.inr h5)] at hr1
        conv => whnf
        exact .done (bad 100 (by decide) hr1)
      rw [if_neg (by omega)] at hr1 hr2
      conv => whnf
      refine .mk fun bk hbk => ?_
      have aG : At hG hG b gt gf N arcs f k := ⟨Hp.le_refl _, o.atG.web, o.atG.good⟩
      conv => whnf
      refine .done (.mk _ (fireOne hs aG (by omega) zs[k] hbk) ?_)
      rintro _ _ ⟨rfl, hH, rfl, aH⟩
      cases hm : may N arcs f zs[k] with
      | false =>
        rw [hm, if_neg (by simp)] at hr1
        rw [fire_no hm] at aH ⊢
        conv => whnf
        refine .done ⟨(o.fire aH).atG.all, fun _ => ?_, fun q => ?_⟩
        · rw [hal]; show _ = Value.tuple #[_, iv (alongR N arcs zs (List.replicate N 0)).1]; rw [hr1]; rfl
        · rw [hal] at q; rw [show (alongR N arcs zs (List.replicate N 0)).1 = 0 from q] at hr1; cases hr1
      | true =>
        rw [hm, if_pos rfl] at hr1 hr2
        rw [fire_yes hm] at aH ⊢
        have o2 := o.fire aH
        conv => whnf
        refine .done (.mk _ (counts27 hs o2.atG) ?_)
        rintro _ h1 ⟨g, c, rfl, hle1, hr3, hg1⟩
        conv => whnf
        refine .done (.mk _ (hN rows _ X h1 g c _ (by omega) hX (Hp.le_trans o2.sub (Hp.le_trans (Hp.le_st o2.fT o2.fF) hle1)) (le_none (Hp.le_trans o2.sub (Hp.le_st o2.fT o2.fF)) hg1) hr3 (toksOf_len _ _)) ?_)
        rintro v h2 ⟨X2, hX2, hXl, hk2⟩
        obtain ⟨hG2, rfl, o3⟩ := o2.step hle1 hg1 hXl hk2
        conv => whnf
        refine .ok (by omega) (by omega) ?_
        conv => whnf
        refine ⟨(k + 1, hG2, X2, v, bump f zs[k].toNat, rows ++ [toksOf arcs (bump f zs[k].toNat)]), rfl, rfl, ⟨rfl, o3, hX2, by simp [hrl], hk', hr1, ?_⟩, by show r - (k + 1) < r - k; omega⟩
        rw [hr2]; simp
    · rw [List.drop_eq_nil_of_le (by omega), alongR] at hr1 hr2
      conv => whnf
      refine .done ⟨o.atG.all, fun q => ?_, fun _ => ⟨v, X, rfl, ?_, Hp.le_trans o.sub (Hp.le_st o.fT o.fF), Disj.mono o.at_.le o.dis⟩⟩
      · rw [hal] at q; exact absurd hr1 q
      · rw [hal]; show R (_ :: _) v X; rw [hr2]; simpa using hX
  · conv => whnf
    refine .done (.mk _ (new16_bad N n cap arcs A h ht hn hs) ?_)
    rintro _ h2 ⟨rfl, rfl⟩
    conv => whnf
    refine br_dec (fun h1 => ?_) (fun h1 => absurd h1 (by simpa using hs))
    conv => whnf
    refine .done ⟨Hp.le_refl _, fun _ => ?_, fun q => ?_⟩
    · rw [along_bad hs]; rfl
    · rw [along_bad hs] at q; exact absurd q hs
theorem over37_bad (fn : FuncId) (R : List (List Int) → Value → Hp → Prop) (N : Int) (n cap : Nat) (arcs : List Arc) (A D : Option Addr) (r cap2 : Nat) (zs : List Int) (h : Hp) (ht : Tab h 5 A n (arcs.map Arc.cells)) (hn : n * 40 ≤ 140737488355328) (hs : chk N arcs ≠ 0) :
    Fn Tryz.prog 52 #[netV N A n cap, .slice D r cap2, .slice none 0 0, .func (.func fn) #[] #[]] h fun v h' => OverOk h N arcs zs (.slice none 0 0) R v h' := by
  refine Fn.intro (args := [netV N A n cap, .slice D r cap2, .slice none 0 0, .func (.func fn) #[] #[]]) mix14 Tryz.func52 rfl (by decide) Tryz.ntmps52 rfl (low52 rfl) rfl ?_
  conv => whnf
  refine .done (.mk _ (new16_bad N n cap arcs A h ht hn hs) ?_)
  rintro _ h2 ⟨rfl, rfl⟩
  conv => whnf
  refine br_dec (fun h1 => ?_) (fun h1 => absurd h1 (by simpa using hs))
  conv => whnf
  refine .done ⟨Hp.le_refl _, fun _ => ?_, fun q => ?_⟩
  · rw [along_bad hs]; rfl
  · rw [along_bad hs] at q; exact absurd q hs
end Go.Sx
namespace Go.Sx
open Go.Proofs
set_option maxRecDepth 100000
def NextOkM (f : FuncId) (R : List (List Int) → Value → Hp → Prop) (M n : Nat) : Prop :=
  ∀ rows v X h g c toks, rows.length ≤ M → R rows v X → X.le h → X g.block = none → RowAt h 3 1 (some g) n c (toks.map iv) → toks.length = n →
    Fn Tryz.prog f #[v, .slice (some g) n c] h fun r h' => h.le h' ∧ ∃ X', R (rows ++ [toks]) r X' ∧ X'.le h' ∧ ∀ K, K.le h → Disj K X → K g.block = none → K.le h' ∧ Disj K X'
set_option maxHeartbeats 1000000 in
theorem over39 (fn : FuncId) (R : List (List Int) → Value → Hp → Prop) (N : Int) (n cap : Nat) (arcs : List Arc) (A D : Option Addr) (r cap2 : Nat) (zs : List Int) (h : Hp) (ht : Tab h 5 A n (arcs.map Arc.cells)) (hn : n * 40 ≤ 140737488355328) (hz : Tab h 1 D r (zs.map fun z => [iv z]))
    (hR : R [] (.agg #[.slice none 0 0, .slice none 0 0]) Hp.empty) (hR2 : ∀ rows v X, R rows v X → ∃ x y : Option Addr × Nat × Nat, v = .agg #[.slice x.1 x.2.1 x.2.2, .slice y.1 y.2.1 y.2.2]) (hN : NextOkM fn R 2048 arcs.length) :
    Fn Tryz.prog 49 #[netV N A n cap, .slice D r cap2, .agg #[.slice none 0 0, .slice none 0 0], .func (.func fn) #[] #[]] h fun v h' => OverOk h N arcs zs (.agg #[.slice none 0 0, .slice none 0 0]) R v h' := by
  have hzl : zs.length = r := by simpa using hz.len
  refine Fn.intro (args := [netV N A n cap, .slice D r cap2, .agg #[.slice none 0 0, .slice none 0 0], .func (.func fn) #[] #[]]) mix14 Tryz.func49 rfl (by decide) Tryz.ntmps49 rfl (low49 rfl) rfl ?_
  by_cases hs : chk N arcs = 0
  · have hNb := chk_zero hs
    obtain ⟨N, rfl⟩ : ∃ q : Nat, N = q := ⟨N.toNat, by omega⟩
    conv => whnf
    refine .done (.mk _ (new16 N n cap arcs A h ht hn hs) ?_)
    rintro _ _ ⟨hF, b, gt, gf, rfl, hleF, web, rfl⟩
    obtain ⟨Aa, Ai, Ao, ca, ci, co, I, O, w0⟩ := web.ex
    have fT := w0.freeT
    have fF := w0.freeF
    clear w0
    conv => whnf
    refine br_dec (fun h2 => ?_) (fun h2 => ?_)
    · conv => whnf
      refine .done ⟨Hp.le_trans hleF (Hp.le_st fT fF), fun _ => ?_, fun q => ?_⟩
      · rw [along_long hs (by omega)]; rfl
      · rw [along_long hs (by omega)] at q; cases q
    have hal := along_ok (zs := zs) hs (by omega)
    have o0 : Ov h hF hF Hp.empty b gt gf N arcs (List.replicate N 0) 0 := ⟨⟨hleF, web, good_zero hs⟩, Hp.le_refl _, Hp.le_empty _, Disj.empty _, fT, fF⟩
    conv => whnf
    refine And.intro ?_ ?_
    · conv => whnf
      refine .mk _ (counts27 hs o0.atG) (fun _ _ q => by obtain ⟨_, _, _, q, _⟩ := q; exact q) ?_
      rintro _ h1 ⟨g, c, rfl, hle1, hr1, hg1⟩
      conv => whnf
      refine And.intro ?_ ?_
      · conv => whnf
        refine .mk _ (hN [] _ _ h1 g c _ (Nat.zero_le _) hR (Hp.le_empty _) rfl hr1 (toksOf_len _ _)) (fun _ _ q => q.1) ?_
        rintro v h2 ⟨_, X, hX, hXl, hk⟩
        obtain ⟨x, y, rfl⟩ := hR2 _ _ _ hX
        obtain ⟨hG, rfl, o1⟩ := o0.step hle1 hg1 hXl hk
        conv => whnf
        refine .mk (Nat × Hp × Hp × ((Option Addr × Nat × Nat) × (Option Addr × Nat × Nat)) × List Int × List (List Int)) [3, 4, 8, 10, 11, 13, 34, 35, 36] (fun (k, _, _, _, _, _) => [.v (.func (.func fn) #[] #[]), .p 0 0, .p 2 0, .p 3 0, .v (ptr b), .p 4 0, .v (.slice D r cap2), .v (iv r), .v (iv k)]) (fun (_, _, _, (x, y), _, _) => [.own [.v (iv N), .v (.slice A n cap)] 24, .own [.v (.slice none 0 0), .v (.slice none 0 0)] 91, .own [.v (.slice none 0 0), .v (.slice none 0 0)] 91, .own [.v (.slice none 0 0), .v (.slice none 0 0)] 91, .own [.v (.slice x.1 x.2.1 x.2.2), .v (.slice y.1 y.2.1 y.2.2)] 91])
          (fun (k, hG, X, (x, y), f, rows) h' => h' = st hG gt gf (toksOf arcs f) f ∧ Ov h hF hG X b gt gf N arcs f k ∧ R rows (.agg #[.slice x.1 x.2.1 x.2.2, .slice y.1 y.2.1 y.2.2]) X ∧ rows.length = k + 1 ∧ k ≤ r ∧ (alongR N arcs zs (List.replicate N 0)).1 = (alongR N arcs (zs.drop k) f).1 ∧
            toksOf arcs (List.replicate N 0) :: (alongR N arcs zs (List.replicate N 0)).2 = rows ++ (alongR N arcs (zs.drop k) f).2) (fun (k, _, _, _, _, _) => r - k) (0, hG, X, (x, y), List.replicate N 0, [toksOf arcs (List.replicate N 0)]) (fun (_, _, _, _, _, _) => rfl)
          ⟨rfl, o1, hX, rfl, Nat.zero_le _, rfl, rfl⟩ rfl rfl ?_
        rintro ⟨k, hG, X, ⟨x, y⟩, f, rows⟩ e h' ⟨rfl, o, hX, hrl, hk, hr1, hr2⟩
        conv => whnf
        refine br_dec (fun h3 => ?_) (fun h3 => ?_)
        · have hk' : k < r := by omega
          have hdrop : zs.drop k = zs[k] :: zs.drop (k + 1) := List.drop_eq_getElem_cons (by omega)
          obtain ⟨g, hg⟩ := hz.ad (by omega)
          rw [hdrop, alongR] at hr1 hr2
          have bad : ∀ z : Int, z ≠ 0 → (alongR N arcs zs (List.replicate N 0)).1 = z → OverOk h N arcs zs (.agg #[.slice none 0 0, .slice none 0 0]) R (.tuple #[.agg #[.slice none 0 0, .slice none 0 0], iv z]) (st hG gt gf (toksOf arcs f) f) := fun z hz e => by
            refine ⟨o.atG.all, fun _ => ?_, fun q => ?_⟩
            · rw [hal]; show _ = Value.tuple #[_, iv (alongR N arcs zs (List.replicate N 0)).1]; rw [e]
            · rw [hal] at q; exact absurd (e.symm.trans q) hz
          conv => whnf
          refine .mk g hg (by omega) (by omega) ?_
          conv => whnf
          refine .hp (iv zs[k]) (by rw [Int.toNat_natCast]; exact (hz.mono o.atG.all).one hg (r := [iv zs[k]]) (by simp [hzl, hk']) rfl) ?_
          conv => whnf
          refine br_dec (fun h4 => ?_) (fun h4 => ?_)
          · rw [if_pos (.inl h4)] at hr1
            conv => whnf
            exact .done (bad 100 (by decide) hr1)
          conv => whnf
          refine br_dec (fun h5 => ?_) (fun h5 => ?_)
          · rw [if_pos (.inr h5)] at hr1
            conv => whnf
            exact .done (bad 100 (by decide) hr1)
          rw [if_neg (by omega)] at hr1 hr2
          conv => whnf
          refine .mk fun bk hbk => ?_
          have aG : At hG hG b gt gf N arcs f k := ⟨Hp.le_refl _, o.atG.web, o.atG.good⟩
          conv => whnf
          refine .done (.mk _ (fireOne hs aG (by omega) zs[k] hbk) ?_)
          rintro _ _ ⟨rfl, hH, rfl, aH⟩
          cases hm : may N arcs f zs[k] with
          | false =>
            rw [hm, if_neg (by simp)] at hr1
            rw [fire_no hm] at aH ⊢
            conv => whnf
            refine .done ⟨(o.fire aH).atG.all, fun _ => ?_, fun q => ?_⟩
            · rw [hal]; show _ = Value.tuple #[_, iv (alongR N arcs zs (List.replicate N 0)).1]; rw [hr1]; rfl
            · rw [hal] at q; rw [show (alongR N arcs zs (List.replicate N 0)).1 = 0 from q] at hr1; cases hr1
          | true =>
            rw [hm, if_pos rfl] at hr1 hr2
            rw [fire_yes hm] at aH ⊢
            have o2 := o.fire aH
            conv => whnf
            refine .mk _ (counts27 hs o2.atG) (fun _ _ q => by obtain ⟨_, _, _, q, _⟩ := q; exact q) ?_
            rintro _ h1 ⟨g, c, rfl, hle1, hr3, hg1⟩
            conv => whnf
            refine .mk _ (hN rows _ X h1 g c _ (by omega) hX (Hp.le_trans o2.sub (Hp.le_trans (Hp.le_st o2.fT o2.fF) hle1)) (le_none (Hp.le_trans o2.sub (Hp.le_st o2.fT o2.fF)) hg1) hr3 (toksOf_len _ _)) (fun _ _ q => q.1) ?_
            rintro v h2 ⟨_, X2, hX2, hXl, hk2⟩
            obtain ⟨x2, y2, rfl⟩ := hR2 _ _ _ hX2
            obtain ⟨hG2, rfl, o3⟩ := o2.step hle1 hg1 hXl hk2
            conv => whnf
            refine .ok (by omega) (by omega) ?_
            conv => whnf
            refine ⟨(k + 1, hG2, X2, (x2, y2), bump f zs[k].toNat, rows ++ [toksOf arcs (bump f zs[k].toNat)]), rfl, rfl, ⟨rfl, o3, hX2, by simp [hrl], hk', hr1, ?_⟩, by show r - (k + 1) < r - k; omega⟩
            rw [hr2]; simp
        · rw [List.drop_eq_nil_of_le (by omega), alongR] at hr1 hr2
          conv => whnf
          refine .done ⟨o.atG.all, fun q => ?_, fun _ => ⟨_, X, rfl, ?_, Hp.le_trans o.sub (Hp.le_st o.fT o.fF), Disj.mono o.at_.le o.dis⟩⟩
          · rw [hal] at q; exact absurd hr1 q
          · rw [hal]; show R (_ :: _) _ X; rw [hr2]; simpa using hX
      · conv => whnf
        refine .mk _ (hN [] _ _ h1 g c _ (Nat.zero_le _) hR (Hp.le_empty _) rfl hr1 (toksOf_len _ _)) (fun _ _ q => q.1) ?_
        rintro v h2 ⟨_, X, hX, hXl, hk⟩
        obtain ⟨x, y, rfl⟩ := hR2 _ _ _ hX
        obtain ⟨hG, rfl, o1⟩ := o0.step hle1 hg1 hXl hk
        conv => whnf
        refine .mk (Nat × Hp × Hp × ((Option Addr × Nat × Nat) × (Option Addr × Nat × Nat)) × List Int × List (List Int)) [3, 4, 8, 10, 11, 13, 34, 35, 36] (fun (k, _, _, _, _, _) => [.v (.func (.func fn) #[] #[]), .p 0 0, .p 2 0, .p 3 0, .v (ptr b), .p 4 0, .v (.slice D r cap2), .v (iv r), .v (iv k)]) (fun (_, _, _, (x, y), _, _) => [.own [.v (iv N), .v (.slice A n cap)] 24, .own [.v (.slice none 0 0), .v (.slice none 0 0)] 91, .own [.v (.slice none 0 0), .v (.slice none 0 0)] 91, .own [.v (.slice none 0 0), .v (.slice none 0 0)] 91, .own [.v (.slice x.1 x.2.1 x.2.2), .v (.slice y.1 y.2.1 y.2.2)] 91])
          (fun (k, hG, X, (x, y), f, rows) h' => h' = st hG gt gf (toksOf arcs f) f ∧ Ov h hF hG X b gt gf N arcs f k ∧ R rows (.agg #[.slice x.1 x.2.1 x.2.2, .slice y.1 y.2.1 y.2.2]) X ∧ rows.length = k + 1 ∧ k ≤ r ∧ (alongR N arcs zs (List.replicate N 0)).1 = (alongR N arcs (zs.drop k) f).1 ∧
            toksOf arcs (List.replicate N 0) :: (alongR N arcs zs (List.replicate N 0)).2 = rows ++ (alongR N arcs (zs.drop k) f).2) (fun (k, _, _, _, _, _) => r - k) (0, hG, X, (x, y), List.replicate N 0, [toksOf arcs (List.replicate N 0)]) (fun (_, _, _, _, _, _) => rfl)
          ⟨rfl, o1, hX, rfl, Nat.zero_le _, rfl, rfl⟩ rfl rfl ?_
        rintro ⟨k, hG, X, ⟨x, y⟩, f, rows⟩ e h' ⟨rfl, o, hX, hrl, hk, hr1, hr2⟩
        conv => whnf
        refine br_dec (fun h3 => ?_) (fun h3 => ?_)
        · have hk' : k < r := by omega
          have hdrop : zs.drop k = zs[k] :: zs.drop (k + 1) := List.drop_eq_getElem_cons (by omega)
          obtain ⟨g, hg⟩ := hz.ad (by omega)
          rw [hdrop, alongR] at hr1 hr2
          have bad : ∀ z : Int, z ≠ 0 → (alongR N arcs zs (List.replicate N 0)).1 = z → OverOk h N arcs zs (.agg #[.slice none 0 0, .slice none 0 0]) R (.tuple #[.agg #[.slice none 0 0, .slice none 0 0], iv z]) (st hG gt gf (toksOf arcs f) f) := fun z hz e => by
            refine ⟨o.atG.all, fun _ => ?_, fun q => ?_⟩
            · rw [hal]; show _ = Value.tuple #[_, iv (alongR N arcs zs (List.replicate N 0)).1]; rw [e]
            · rw [hal] at q; exact absurd (e.symm.trans q) hz
          conv => whnf
          refine .mk g hg (by omega) (by omega) ?_
          conv => whnf
          refine .hp (iv zs[k]) (by rw [Int.toNat_natCast]; exact (hz.mono o.atG.all).one hg (r := [iv zs[k]]) (by simp [hzl, hk']) rfl) ?_
          conv => whnf
          refine br_dec (fun h4 => ?_) (fun h4 => ?_)
          · rw [if_pos (.inl h4)] at hr1
            conv => whnf
            exact .done (bad 100 (by decide) hr1)
          conv => whnf
          refine br_dec (fun h5 => ?_) (fun h5 => ?_)
          · rw [if_pos (.inr h5)] at hr1
            conv => whnf
            exact .done (bad 100 (by decide) hr1)
          rw [if_neg (by omega)] at hr1 hr2
          conv => whnf
          refine .mk fun bk hbk => ?_
          have aG : At hG hG b gt gf N arcs f k := ⟨Hp.le_refl _, o.atG.web, o.atG.good⟩
          conv => whnf
          refine .done (.mk _ (fireOne hs aG (by omega) zs[k] hbk) ?_)
          rintro _ _ ⟨rfl, hH, rfl, aH⟩
          cases hm : may N arcs f zs[k] with
          | false =>
            rw [hm, if_neg (by simp)] at hr1
            rw [fire_no hm] at aH ⊢
            conv => whnf
            refine .done ⟨(o.fire aH).atG.all, fun _ => ?_, fun q => ?_⟩
            · rw [hal]; show _ = Value.tuple #[_, iv (alongR N arcs zs (List.replicate N 0)).1]; rw [hr1]; rfl
            · rw [hal] at q; rw [show (alongR N arcs zs (List.replicate N 0)).1 = 0 from q] at hr1; cases hr1
          | true =>
            rw [hm, if_pos rfl] at hr1 hr2
            rw [fire_yes hm] at aH ⊢
            have o2 := o.fire aH
            conv => whnf
            refine .mk _ (counts27 hs o2.atG) (fun _ _ q => by obtain ⟨_, _, _, q, _⟩ := q; exact q) ?_
            rintro _ h1 ⟨g, c, rfl, hle1, hr3, hg1⟩
            conv => whnf
            refine .mk _ (hN rows _ X h1 g c _ (by omega) hX (Hp.le_trans o2.sub (Hp.le_trans (Hp.le_st o2.fT o2.fF) hle1)) (le_none (Hp.le_trans o2.sub (Hp.le_st o2.fT o2.fF)) hg1) hr3 (toksOf_len _ _)) (fun _ _ q => q.1) ?_
            rintro v h2 ⟨_, X2, hX2, hXl, hk2⟩
            obtain ⟨x2, y2, rfl⟩ := hR2 _ _ _ hX2
            obtain ⟨hG2, rfl, o3⟩ := o2.step hle1 hg1 hXl hk2
            conv => whnf
            refine .ok (by omega) (by omega) ?_
            conv => whnf
            refine ⟨(k + 1, hG2, X2, (x2, y2), bump f zs[k].toNat, rows ++ [toksOf arcs (bump f zs[k].toNat)]), rfl, rfl, ⟨rfl, o3, hX2, by simp [hrl], hk', hr1, ?_⟩, by show r - (k + 1) < r - k; omega⟩
            rw [hr2]; simp
        · rw [List.drop_eq_nil_of_le (by omega), alongR] at hr1 hr2
          conv => whnf
          refine .done ⟨o.atG.all, fun q => ?_, fun _ => ⟨_, X, rfl, ?_, Hp.le_trans o.sub (Hp.le_st o.fT o.fF), Disj.mono o.at_.le o.dis⟩⟩
          · rw [hal] at q; exact absurd hr1 q
          · rw [hal]; show R (_ :: _) _ X; rw [hr2]; simpa using hX
    · conv => whnf
      refine .mk _ (counts27 hs o0.atG) (fun _ _ q => by obtain ⟨_, _, _, q, _⟩ := q; exact q) ?_
      rintro _ h1 ⟨g, c, rfl, hle1, hr1, hg1⟩
      conv => whnf
      refine .mk _ (hN [] _ _ h1 g c _ (Nat.zero_le _) hR (Hp.le_empty _) rfl hr1 (toksOf_len _ _)) (fun _ _ q => q.1) ?_
      rintro v h2 ⟨_, X, hX, hXl, hk⟩
      obtain ⟨x, y, rfl⟩ := hR2 _ _ _ hX
      obtain ⟨hG, rfl, o1⟩ := o0.step hle1 hg1 hXl hk
      conv => whnf
      refine .mk (Nat × Hp × Hp × ((Option Addr × Nat × Nat) × (Option Addr × Nat × Nat)) × List Int × List (List Int)) [3, 4, 8, 10, 11, 13, 34, 35, 36] (fun (k, _, _, _, _, _) => [.v (.func (.func fn) #[] #[]), .p 0 0, .p 2 0, .p 3 0, .v (ptr b), .p 4 0, .v (.slice D r cap2), .v (iv r), .v (iv k)]) (fun (_, _, _, (x, y), _, _) => [.own [.v (iv N), .v (.slice A n cap)] 24, .own [.v (.slice none 0 0), .v (.slice none 0 0)] 91, .own [.v (.slice none 0 0), .v (.slice none 0 0)] 91, .own [.v (.slice none 0 0), .v (.slice none 0 0)] 91, .own [.v (.slice x.1 x.2.1 x.2.2), .v (.slice y.1 y.2.1 y.2.2)] 91])
        (fun (k, hG, X, (x, y), f, rows) h' => h' = st hG gt gf (toksOf arcs f) f ∧ Ov h hF hG X b gt gf N arcs f k ∧ R rows (.agg #[.slice x.1 x.2.1 x.2.2, .slice y.1 y.2.1 y.2.2]) X ∧ rows.length = k + 1 ∧ k ≤ r ∧ (alongR N arcs zs (List.replicate N 0)).1 = (alongR N arcs (zs.drop k) f).1 ∧
          toksOf arcs (List.replicate N 0) :: (alongR N arcs zs (List.replicate N 0)).2 = rows ++ (alongR N arcs (zs.drop k) f).2) (fun (k, _, _, _, _, _) => r - k) (0, hG, X, (x, y), List.replicate N 0, [toksOf arcs (List.replicate N 0)]) (fun (_, _, _, _, _, _) => rfl)
        ⟨rfl, o1, hX, rfl, Nat.zero_le _, rfl, rfl⟩ rfl rfl ?_
      rintro ⟨k, hG, X, ⟨x, y⟩, f, rows⟩ e h' ⟨rfl, o, hX, hrl, hk, hr1, hr2⟩
      conv => whnf
      refine br_dec (fun h3 => ?_) (fun h3 => ?_)
      · have hk' : k < r := by omega
        have hdrop : zs.drop k = zs[k] :: zs.drop (k + 1) := List.drop_eq_getElem_cons (by omega)
        obtain ⟨g, hg⟩ := hz.ad (by omega)
        rw [hdrop, alongR] at hr1 hr2
        have bad : ∀ z : Int, z ≠ 0 → (alongR N arcs zs (List.replicate N 0)).1 = z → OverOk h N arcs zs (.agg #[.slice none 0 0, .slice none 0 0]) R (.tuple #[.agg #[.slice none 0 0, .slice none 0 0], iv z]) (st hG gt gf (toksOf arcs f) f) := fun z hz e => by
          refine ⟨o.atG.all, fun _ => ?_, fun q => ?_⟩
          · rw [hal]; show _ = Value.tuple #[_, iv (alongR N arcs zs (List.replicate N 0)).1]; rw [e]
          · rw [hal] at q; exact absurd (e.symm.trans q) hz
        conv => whnf
        refine .mk g hg (by omega) (by omega) ?_
        conv => whnf
        refine .hp (iv zs[k]) (by rw [Int.toNat_natCast]; exact (hz.mono o.atG.all).one hg (r := [iv zs[k]]) (by simp [hzl, hk']) rfl) ?_
        conv => whnf
        refine br_dec (fun h4 => ?_) (fun h4 => ?_)
        · rw [if_pos (.inl h4)] at hr1
          conv => whnf
          exact .done (bad 100 (by decide) hr1)
        conv => whnf
        refine br_dec (fun h5 => ?_) (fun h5 => ?_)
        · rw [if_pos (.inr h5)] at hr1
          conv => whnf
          exact .done (bad 100 (by decide) hr1)
        rw [if_neg (by omega)] at hr1 hr2
        conv => whnf
        refine .mk fun bk hbk => ?_
        have aG : At hG hG b gt gf N arcs f k := ⟨Hp.le_refl _, o.atG.web, o.atG.good⟩
        conv => whnf
        refine .done (.mk _ (fireOne hs aG (by omega) zs[k] hbk) ?_)
        rintro _ _ ⟨rfl, hH, rfl, aH⟩
        cases hm : may N arcs f zs[k] with
        | false =>
          rw [hm, if_neg (by simp)] at hr1
          rw [fire_no hm] at aH ⊢
          conv => whnf
          refine .done ⟨(o.fire aH).atG.all, fun _ => ?_, fun q => ?_⟩
          · rw [hal]; show _ = Value.tuple #[_, iv (alongR N arcs zs (List.replicate N 0)).1]; rw [hr1]; rfl
          · rw [hal] at q; rw [show (alongR N arcs zs (List.replicate N 0)).1 = 0 from q] at hr1; cases hr1
        | true =>
          rw [hm, if_pos rfl] at hr1 hr2
          rw [fire_yes hm] at aH ⊢
          have o2 := o.fire aH
          conv => whnf
          refine .mk _ (counts27 hs o2.atG) (fun _ _ q => by obtain ⟨_, _, _, q, _⟩ := q; exact q) ?_
          rintro _ h1 ⟨g, c, rfl, hle1, hr3, hg1⟩
          conv => whnf
          refine .mk _ (hN rows _ X h1 g c _ (by omega) hX (Hp.le_trans o2.sub (Hp.le_trans (Hp.le_st o2.fT o2.fF) hle1)) (le_none (Hp.le_trans o2.sub (Hp.le_st o2.fT o2.fF)) hg1) hr3 (toksOf_len _ _)) (fun _ _ q => q.1) ?_
          rintro v h2 ⟨_, X2, hX2, hXl, hk2⟩
          obtain ⟨x2, y2, rfl⟩ := hR2 _ _ _ hX2
          obtain ⟨hG2, rfl, o3⟩ := o2.step hle1 hg1 hXl hk2
          conv => whnf
          refine .ok (by omega) (by omega) ?_
          conv => whnf
          refine ⟨(k + 1, hG2, X2, (x2, y2), bump f zs[k].toNat, rows ++ [toksOf arcs (bump f zs[k].toNat)]), rfl, rfl, ⟨rfl, o3, hX2, by simp [hrl], hk', hr1, ?_⟩, by show r - (k + 1) < r - k; omega⟩
          rw [hr2]; simp
      · rw [List.drop_eq_nil_of_le (by omega), alongR] at hr1 hr2
        conv => whnf
        refine .done ⟨o.atG.all, fun q => ?_, fun _ => ⟨_, X, rfl, ?_, Hp.le_trans o.sub (Hp.le_st o.fT o.fF), Disj.mono o.at_.le o.dis⟩⟩
        · rw [hal] at q; exact absurd hr1 q
        · rw [hal]; show R (_ :: _) _ X; rw [hr2]; simpa using hX
  · conv => whnf
    refine .done (.mk _ (new16_bad N n cap arcs A h ht hn hs) ?_)
    rintro _ h2 ⟨rfl, rfl⟩
    conv => whnf
    refine br_dec (fun h1 => ?_) (fun h1 => absurd h1 (by simpa using hs))
    conv => whnf
    refine .done ⟨Hp.le_refl _, fun _ => ?_, fun q => ?_⟩
    · rw [along_bad hs]; rfl
    · rw [along_bad hs] at q; exact absurd q hs
end Go.Sx
