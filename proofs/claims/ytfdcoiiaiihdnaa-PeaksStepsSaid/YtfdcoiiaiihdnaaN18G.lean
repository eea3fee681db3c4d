/- Layer 18: over, ends. Conditions: none. -/
import Derived.Test.YtfdcoiiaiihdnaaN18F
namespace Go.Sx
open Go.Proofs
def NextOkM (f : FuncId) (R : List (List Int) → Value → Hp → Prop) (M n : Nat) : Prop :=
  ∀ rows v X h g c toks, rows.length ≤ M → R rows v X → X.le h → X g.block = none → RowAt h 3 1 (some g) n c (toks.map iv) → toks.length = n →
    Fn Try.prog f #[v, .slice (some g) n c] h fun r h' => h.le h' ∧ ∃ X', R (rows ++ [toks]) r X' ∧ X'.le h' ∧ ∀ K, K.le h → Disj K X → K g.block = none → K.le h' ∧ Disj K X'
set_option maxHeartbeats 1000000 in
theorem over39 (fn : FuncId) (R : List (List Int) → Value → Hp → Prop) (N : Int) (n cap : Nat) (arcs : List Arc) (A D : Option Addr) (r cap2 : Nat) (zs : List Int) (h : Hp) (ht : Tab h 5 A n (arcs.map Arc.cells)) (hn : n * 40 ≤ 140737488355328) (hz : Tab h 1 D r (zs.map fun z => [iv z]))
    (hR : R [] (.agg #[.slice none 0 0, .slice none 0 0]) Hp.empty) (hR2 : ∀ rows v X, R rows v X → ∃ x y : Option Addr × Nat × Nat, v = .agg #[.slice x.1 x.2.1 x.2.2, .slice y.1 y.2.1 y.2.2]) (hN : NextOkM fn R 2048 arcs.length) :
    Fn Try.prog 39 #[netV N A n cap, .slice D r cap2, .agg #[.slice none 0 0, .slice none 0 0], .func (.func fn) #[] #[]] h fun v h' => OverOk h N arcs zs (.agg #[.slice none 0 0, .slice none 0 0]) R v h' := by
  have hzl : zs.length = r := by simpa using hz.len
  refine Fn.intro (args := [netV N A n cap, .slice D r cap2, .agg #[.slice none 0 0, .slice none 0 0], .func (.func fn) #[] #[]]) mix14 Try.func39 rfl (by decide) Try.ntmps39 rfl (low39 rfl) rfl ?_
  by_cases hs : chk N arcs = 0
  · have hNb := chk_zero hs
    obtain ⟨N, rfl⟩ : ∃ q : Nat, N = q := ⟨N.toNat, by omega⟩
    conv => whnf
    refine .done (.mk _ (new16 N n cap arcs A h ht hn hs) ?_)
    rintro _ _ ⟨hF, b, gt, gf, rfl, hleF, web, rfl⟩
    obtain ⟨Aa, Ai, Ao, ca, ci, co, I, O, w0⟩ := web.ex
    have fT := w0.freeT
    have fF := w0.freeF
    clear w0
    conv => whnf
    refine br_dec (fun h2 => ?_) (fun h2 => ?_)
    · conv => whnf
      refine .done ⟨Hp.le_trans hleF (Hp.le_st fT fF), fun _ => ?_, fun q => ?_⟩
      · rw [along_long hs (by omega)]; rfl
      · rw [along_long hs (by omega)] at q; cases q
    have hal := along_ok (zs := zs) hs (by omega)
    have o0 : Ov h hF hF Hp.empty b gt gf N arcs (List.replicate N 0) 0 := ⟨⟨hleF, web, good_zero hs⟩, Hp.le_refl _, Hp.le_empty _, Disj.empty _, fT, fF⟩
    conv => whnf
    refine And.intro ?_ ?_
    · conv => whnf
      refine .mk _ (counts27 hs o0.atG) (fun _ _ q => by obtain ⟨_, _, _, q, _⟩ := q; exact q) ?_
      rintro _ h1 ⟨g, c, rfl, hle1, hr1, hg1⟩
      conv => whnf
      refine And.intro ?_ ?_
      · conv => whnf
        refine .mk _ (hN [] _ _ h1 g c _ (Nat.zero_le _) hR (Hp.le_empty _) rfl hr1 (toksOf_len _ _)) (fun _ _ q => q.1) ?_
        rintro v h2 ⟨_, X, hX, hXl, hk⟩
        obtain ⟨x, y, rfl⟩ := hR2 _ _ _ hX
        obtain ⟨hG, rfl, o1⟩ := o0.step hle1 hg1 hXl hk
        conv => whnf
        refine .mk (Nat × Hp × Hp × ((Option Addr × Nat × Nat) × (Option Addr × Nat × Nat)) × List Int × List (List Int)) [3, 4, 8, 10, 11, 13, 34, 35, 36] (fun (k, _, _, _, _, _) => [.v (.func (.func fn) #[] #[]), .p 0 0, .p 2 0, .p 3 0, .v (ptr b), .p 4 0, .v (.slice D r cap2), .v (iv r), .v (iv k)]) (fun (_, _, _, (x, y), _, _) => [.own [.v (iv N), .v (.slice A n cap)] 24, .own [.v (.slice none 0 0), .v (.slice none 0 0)] 66, .own [.v (.slice none 0 0), .v (.slice none 0 0)] 66, .own [.v (.slice none 0 0), .v (.slice none 0 0)] 66, .own [.v (.slice x.1 x.2.1 x.2.2), .v (.slice y.1 y.2.1 y.2.2)] 66])
          (fun (k, hG, X, (x, y), f, rows) h' => h' = st hG gt gf (toksOf arcs f) f ∧ Ov h hF hG X b gt gf N arcs f k ∧ R rows (.agg #[.slice x.1 x.2.1 x.2.2, .slice y.1 y.2.1 y.2.2]) X ∧ rows.length = k + 1 ∧ k ≤ r ∧ (alongR N arcs zs (List.replicate N 0)).1 = (alongR N arcs (zs.drop k) f).1 ∧
            toksOf arcs (List.replicate N 0) :: (alongR N arcs zs (List.replicate N 0)).2 = rows ++ (alongR N arcs (zs.drop k) f).2) (fun (k, _, _, _, _, _) => r - k) (0, hG, X, (x, y), List.replicate N 0, [toksOf arcs (List.replicate N 0)]) (fun (_, _, _, _, _, _) => rfl)
          ⟨rfl, o1, hX, rfl, Nat.zero_le _, rfl, rfl⟩ rfl rfl ?_
        rintro ⟨k, hG, X, ⟨x, y⟩, f, rows⟩ e h' ⟨rfl, o, hX, hrl, hk, hr1, hr2⟩
        conv => whnf
        refine br_dec (fun h3 => ?_) (fun h3 => ?_)
        · have hk' : k < r := by omega
          have hdrop : zs.drop k = zs[k] :: zs.drop (k + 1) := List.drop_eq_getElem_cons (by omega)
          obtain ⟨g, hg⟩ := hz.ad (by omega)
          rw [hdrop, alongR] at hr1 hr2
          have bad : ∀ z : Int, z ≠ 0 → (alongR N arcs zs (List.replicate N 0)).1 = z → OverOk h N arcs zs (.agg #[.slice none 0 0, .slice none 0 0]) R (.tuple #[.agg #[.slice none 0 0, .slice none 0 0], iv z]) (st hG gt gf (toksOf arcs f) f) := fun z hz e => by
            refine ⟨o.atG.all, fun _ => ?_, fun q => ?_⟩
            · rw [hal]; show _ = Value.tuple #[_, iv (alongR N arcs zs (List.replicate N 0)).1]; rw [e]
            · rw [hal] at q; exact absurd (e.symm.trans q) hz
          conv => whnf
          refine .mk g hg (by omega) (by omega) ?_
          conv => whnf
          refine .hp (iv zs[k]) (by rw [Int.toNat_natCast]; exact (hz.mono o.atG.all).one hg (r := [iv zs[k]]) (by simp [hzl, hk']) rfl) ?_
          conv => whnf
          refine br_dec (fun h4 => ?_) (fun h4 => ?_)
          · rw [if_pos (.inl h4)] at hr1
            conv => whnf
            exact .done (bad 100 (by decide) hr1)
          conv => whnf
          refine br_dec (fun h5 => ?_) (fun h5 => ?_)
          · rw [if_pos (.inr h5)] at hr1
            conv => whnf
            exact .done (bad 100 (by decide) hr1)
          rw [if_neg (by omega)] at hr1 hr2
          conv => whnf
          refine .mk fun bk hbk => ?_
          have aG : At hG hG b gt gf N arcs f k := ⟨Hp.le_refl _, o.atG.web, o.atG.good⟩
          conv => whnf
          refine .done (.mk _ (fireOne hs aG (by omega) zs[k] hbk) ?_)
          rintro _ _ ⟨rfl, hH, rfl, aH⟩
          cases hm : may N arcs f zs[k] with
          | false =>
            rw [hm, if_neg (by simp)] at hr1
            rw [fire_no hm] at aH ⊢
            conv => whnf
            refine .done ⟨(o.fire aH).atG.all, fun _ => ?_, fun q => ?_⟩
            · rw [hal]; show _ = Value.tuple #[_, iv (alongR N arcs zs (List.replicate N 0)).1]; rw [hr1]; rfl
            · rw [hal] at q; rw [show (alongR N arcs zs (List.replicate N 0)).1 = 0 from q] at hr1; cases hr1
          | true =>
            rw [hm, if_pos rfl] at hr1 hr2
            rw [fire_yes hm] at aH ⊢
            have o2 := o.fire aH
            conv => whnf
            refine .mk _ (counts27 hs o2.atG) (fun _ _ q => by obtain ⟨_, _, _, q, _⟩ := q; exact q) ?_
            rintro _ h1 ⟨g, c, rfl, hle1, hr3, hg1⟩
            conv => whnf
            refine .mk _ (hN rows _ X h1 g c _ (by omega) hX (Hp.le_trans o2.sub (Hp.le_trans (Hp.le_st o2.fT o2.fF) hle1)) (le_none (Hp.le_trans o2.sub (Hp.le_st o2.fT o2.fF)) hg1) hr3 (toksOf_len _ _)) (fun _ _ q => q.1) ?_
            rintro v h2 ⟨_, X2, hX2, hXl, hk2⟩
            obtain ⟨x2, y2, rfl⟩ := hR2 _ _ _ hX2
            obtain ⟨hG2, rfl, o3⟩ := o2.step hle1 hg1 hXl hk2
            conv => whnf
            refine .ok (by omega) (by omega) ?_
            conv => whnf
            refine ⟨(k + 1, hG2, X2, (x2, y2), bump f zs[k].toNat, rows ++ [toksOf arcs (bump f zs[k].toNat)]), rfl, rfl, ⟨rfl, o3, hX2, by simp [hrl], hk', hr1, ?_⟩, by show r - (k + 1) < r - k; omega⟩
            rw [hr2]; simp
        · rw [List.drop_eq_nil_of_le (by omega), alongR] at hr1 hr2
          conv => whnf
          refine .done ⟨o.atG.all, fun q => ?_, fun _ => ⟨_, X, rfl, ?_, Hp.le_trans o.sub (Hp.le_st o.fT o.fF), Disj.mono o.at_.le o.dis⟩⟩
          · rw [hal] at q; exact absurd hr1 q
          · rw [hal]; show R (_ :: _) _ X; rw [hr2]; simpa using hX
      · conv => whnf
        refine .mk _ (hN [] _ _ h1 g c _ (Nat.zero_le _) hR (Hp.le_empty _) rfl hr1 (toksOf_len _ _)) (fun _ _ q => q.1) ?_
        rintro v h2 ⟨_, X, hX, hXl, hk⟩
        obtain ⟨x, y, rfl⟩ := hR2 _ _ _ hX
        obtain ⟨hG, rfl, o1⟩ := o0.step hle1 hg1 hXl hk
        conv => whnf
        refine .mk (Nat × Hp × Hp × ((Option Addr × Nat × Nat) × (Option Addr × Nat × Nat)) × List Int × List (List Int)) [3, 4, 8, 10, 11, 13, 34, 35, 36] (fun (k, _, _, _, _, _) => [.v (.func (.func fn) #[] #[]), .p 0 0, .p 2 0, .p 3 0, .v (ptr b), .p 4 0, .v (.slice D r cap2), .v (iv r), .v (iv k)]) (fun (_, _, _, (x, y), _, _) => [.own [.v (iv N), .v (.slice A n cap)] 24, .own [.v (.slice none 0 0), .v (.slice none 0 0)] 66, .own [.v (.slice none 0 0), .v (.slice none 0 0)] 66, .own [.v (.slice none 0 0), .v (.slice none 0 0)] 66, .own [.v (.slice x.1 x.2.1 x.2.2), .v (.slice y.1 y.2.1 y.2.2)] 66])
          (fun (k, hG, X, (x, y), f, rows) h' => h' = st hG gt gf (toksOf arcs f) f ∧ Ov h hF hG X b gt gf N arcs f k ∧ R rows (.agg #[.slice x.1 x.2.1 x.2.2, .slice y.1 y.2.1 y.2.2]) X ∧ rows.length = k + 1 ∧ k ≤ r ∧ (alongR N arcs zs (List.replicate N 0)).1 = (alongR N arcs (zs.drop k) f).1 ∧
            toksOf arcs (List.replicate N 0) :: (alongR N arcs zs (List.replicate N 0)).2 = rows ++ (alongR N arcs (zs.drop k) f).2) (fun (k, _, _, _, _, _) => r - k) (0, hG, X, (x, y), List.replicate N 0, [toksOf arcs (List.replicate N 0)]) (fun (_, _, _, _, _, _) => rfl)
          ⟨rfl, o1, hX, rfl, Nat.zero_le _, rfl, rfl⟩ rfl rfl ?_
        rintro ⟨k, hG, X, ⟨x, y⟩, f, rows⟩ e h' ⟨rfl, o, hX, hrl, hk, hr1, hr2⟩
        conv => whnf
        refine br_dec (fun h3 => ?_) (fun h3 => ?_)
        · have hk' : k < r := by omega
          have hdrop : zs.drop k = zs[k] :: zs.drop (k + 1) := List.drop_eq_getElem_cons (by omega)
          obtain ⟨g, hg⟩ := hz.ad (by omega)
          rw [hdrop, alongR] at hr1 hr2
          have bad : ∀ z : Int, z ≠ 0 → (alongR N arcs zs (List.replicate N 0)).1 = z → OverOk h N arcs zs (.agg #[.slice none 0 0, .slice none 0 0]) R (.tuple #[.agg #[.slice none 0 0, .slice none 0 0], iv z]) (st hG gt gf (toksOf arcs f) f) := fun z hz e => by
            refine ⟨o.atG.all, fun _ => ?_, fun q => ?_⟩
            · rw [hal]; show _ = Value.tuple #[_, iv (alongR N arcs zs (List.replicate N 0)).1]; rw [e]
            · rw [hal] at q; exact absurd (e.symm.trans q) hz
          conv => whnf
          refine .mk g hg (by omega) (by omega) ?_
          conv => whnf
          refine .hp (iv zs[k]) (by rw [Int.toNat_natCast]; exact (hz.mono o.atG.all).one hg (r := [iv zs[k]]) (by simp [hzl, hk']) rfl) ?_
          conv => whnf
          refine br_dec (fun h4 => ?_) (fun h4 => ?_)
          · rw [if_pos (.inl h4)] at hr1
            conv => whnf
            exact .done (bad 100 (by decide) hr1)
          conv => whnf
          refine br_dec (fun h5 => ?_) (fun h5 => ?_)
          · rw [if_pos (.inr h5)] at hr1
            conv => whnf
            exact .done (bad 100 (by decide) hr1)
          rw [if_neg (by omega)] at hr1 hr2
          conv => whnf
          refine .mk fun bk hbk => ?_
          have aG : At hG hG b gt gf N arcs f k := ⟨Hp.le_refl _, o.atG.web, o.atG.good⟩
          conv => whnf
          refine .done (.mk _ (fireOne hs aG (by omega) zs[k] hbk) ?_)
          rintro _ _ ⟨rfl, hH, rfl, aH⟩
          cases hm : may N arcs f zs[k] with
          | false =>
            rw [hm, if_neg (by simp)] at hr1
            rw [fire_no hm] at aH ⊢
            conv => whnf
            refine .done ⟨(o.fire aH).atG.all, fun _ => ?_, fun q => ?_⟩
            · rw [hal]; show _ = Value.tuple #[_, iv (alongR N arcs zs (List.replicate N 0)).1]; rw [hr1]; rfl
            · rw [hal] at q; rw [show (alongR N arcs zs (List.replicate N 0)).1 = 0 from q] at hr1; cases hr1
          | true =>
            rw [hm, if_pos rfl] at hr1 hr2
            rw [fire_yes hm] at aH ⊢
            have o2 := o.fire aH
            conv => whnf
            refine .mk _ (counts27 hs o2.atG) (fun _ _ q => by obtain ⟨_, _, _, q, _⟩ := q; exact q) ?_
            rintro _ h1 ⟨g, c, rfl, hle1, hr3, hg1⟩
            conv => whnf
            refine .mk _ (hN rows _ X h1 g c _ (by omega) hX (Hp.le_trans o2.sub (Hp.le_trans (Hp.le_st o2.fT o2.fF) hle1)) (le_none (Hp.le_trans o2.sub (Hp.le_st o2.fT o2.fF)) hg1) hr3 (toksOf_len _ _)) (fun _ _ q => q.1) ?_
            rintro v h2 ⟨_, X2, hX2, hXl, hk2⟩
            obtain ⟨x2, y2, rfl⟩ := hR2 _ _ _ hX2
            obtain ⟨hG2, rfl, o3⟩ := o2.step hle1 hg1 hXl hk2
            conv => whnf
            refine .ok (by omega) (by omega) ?_
            conv => whnf
            refine ⟨(k + 1, hG2, X2, (x2, y2), bump f zs[k].toNat, rows ++ [toksOf arcs (bump f zs[k].toNat)]), rfl, rfl, ⟨rfl, o3, hX2, by simp [hrl], hk', hr1, ?_⟩, by show r - (k + 1) < r - k; omega⟩
            rw [hr2]; simp
        · rw [List.drop_eq_nil_of_le (by omega), alongR] at hr1 hr2
          conv => whnf
          refine .done ⟨o.atG.all, fun q => ?_, fun _ => ⟨_, X, rfl, ?_, Hp.le_trans o.sub (Hp.le_st o.fT o.fF), Disj.mono o.at_.le o.dis⟩⟩
          · rw [hal] at q; exact absurd hr1 q
          · rw [hal]; show R (_ :: _) _ X; rw [hr2]; simpa using hX
    · conv => whnf
      refine .mk _ (counts27 hs o0.atG) (fun _ _ q => by obtain ⟨_, _, _, q, _⟩ := q; exact q) ?_
      rintro _ h1 ⟨g, c, rfl, hle1, hr1, hg1⟩
      conv => whnf
      refine .mk _ (hN [] _ _ h1 g c _ (Nat.zero_le _) hR (Hp.le_empty _) rfl hr1 (toksOf_len _ _)) (fun _ _ q => q.1) ?_
      rintro v h2 ⟨_, X, hX, hXl, hk⟩
      obtain ⟨x, y, rfl⟩ := hR2 _ _ _ hX
      obtain ⟨hG, rfl, o1⟩ := o0.step hle1 hg1 hXl hk
      conv => whnf
      refine .mk (Nat × Hp × Hp × ((Option Addr × Nat × Nat) × (Option Addr × Nat × Nat)) × List Int × List (List Int)) [3, 4, 8, 10, 11, 13, 34, 35, 36] (fun (k, _, _, _, _, _) => [.v (.func (.func fn) #[] #[]), .p 0 0, .p 2 0, .p 3 0, .v (ptr b), .p 4 0, .v (.slice D r cap2), .v (iv r), .v (iv k)]) (fun (_, _, _, (x, y), _, _) => [.own [.v (iv N), .v (.slice A n cap)] 24, .own [.v (.slice none 0 0), .v (.slice none 0 0)] 66, .own [.v (.slice none 0 0), .v (.slice none 0 0)] 66, .own [.v (.slice none 0 0), .v (.slice none 0 0)] 66, .own [.v (.slice x.1 x.2.1 x.2.2), .v (.slice y.1 y.2.1 y.2.2)] 66])
        (fun (k, hG, X, (x, y), f, rows) h' => h' = st hG gt gf (toksOf arcs f) f ∧ Ov h hF hG X b gt gf N arcs f k ∧ R rows (.agg #[.slice x.1 x.2.1 x.2.2, .slice y.1 y.2.1 y.2.2]) X ∧ rows.length = k + 1 ∧ k ≤ r ∧ (alongR N arcs zs (List.replicate N 0)).1 = (alongR N arcs (zs.drop k) f).1 ∧
          toksOf arcs (List.replicate N 0) :: (alongR N arcs zs (List.replicate N 0)).2 = rows ++ (alongR N arcs (zs.drop k) f).2) (fun (k, _, _, _, _, _) => r - k) (0, hG, X, (x, y), List.replicate N 0, [toksOf arcs (List.replicate N 0)]) (fun (_, _, _, _, _, _) => rfl)
        ⟨rfl, o1, hX, rfl, Nat.zero_le _, rfl, rfl⟩ rfl rfl ?_
      rintro ⟨k, hG, X, ⟨x, y⟩, f, rows⟩ e h' ⟨rfl, o, hX, hrl, hk, hr1, hr2⟩
      conv => whnf
      refine br_dec (fun h3 => ?_) (fun h3 => ?_)
      · have hk' : k < r := by omega
        have hdrop : zs.drop k = zs[k] :: zs.drop (k + 1) := List.drop_eq_getElem_cons (by omega)
        obtain ⟨g, hg⟩ := hz.ad (by omega)
        rw [hdrop, alongR] at hr1 hr2
        have bad : ∀ z : Int, z ≠ 0 → (alongR N arcs zs (List.replicate N 0)).1 = z → OverOk h N arcs zs (.agg #[.slice none 0 0, .slice none 0 0]) R (.tuple #[.agg #[.slice none 0 0, .slice none 0 0], iv z]) (st hG gt gf (toksOf arcs f) f) := fun z hz e => by
          refine ⟨o.atG.all, fun _ => ?_, fun q => ?_⟩
          · rw [hal]; show _ = Value.tuple #[_, iv (alongR N arcs zs (List.replicate N 0)).1]; rw [e]
          · rw [hal] at q; exact absurd (e.symm.trans q) hz
        conv => whnf
        refine .mk g hg (by omega) (by omega) ?_
        conv => whnf
        refine .hp (iv zs[k]) (by rw [Int.toNat_natCast]; exact (hz.mono o.atG.all).one hg (r := [iv zs[k]]) (by simp [hzl, hk']) rfl) ?_
        conv => whnf
        refine br_dec (fun h4 => ?_) (fun h4 => ?_)
        · rw [if_pos (.inl h4)] at hr1
          conv => whnf
          exact .done (bad 100 (by decide) hr1)
        conv => whnf
        refine br_dec (fun h5 => ?_) (fun h5 => ?_)
        · rw [if_pos (.inr h5)] at hr1
          conv => whnf
          exact .done (bad 100 (by decide) hr1)
        rw [if_neg (by omega)] at hr1 hr2
        conv => whnf
        refine .mk fun bk hbk => ?_
        have aG : At hG hG b gt gf N arcs f k := ⟨Hp.le_refl _, o.atG.web, o.atG.good⟩
        conv => whnf
        refine .done (.mk _ (fireOne hs aG (by omega) zs[k] hbk) ?_)
        rintro _ _ ⟨rfl, hH, rfl, aH⟩
        cases hm : may N arcs f zs[k] with
        | false =>
          rw [hm, if_neg (by simp)] at hr1
          rw [fire_no hm] at aH ⊢
          conv => whnf
          refine .done ⟨(o.fire aH).atG.all, fun _ => ?_, fun q => ?_⟩
          · rw [hal]; show _ = Value.tuple #[_, iv (alongR N arcs zs (List.replicate N 0)).1]; rw [hr1]; rfl
          · rw [hal] at q; rw [show (alongR N arcs zs (List.replicate N 0)).1 = 0 from q] at hr1; cases hr1
        | true =>
          rw [hm, if_pos rfl] at hr1 hr2
          rw [fire_yes hm] at aH ⊢
          have o2 := o.fire aH
          conv => whnf
          refine .mk _ (counts27 hs o2.atG) (fun _ _ q => by obtain ⟨_, _, _, q, _⟩ := q; exact q) ?_
          rintro _ h1 ⟨g, c, rfl, hle1, hr3, hg1⟩
          conv => whnf
          refine .mk _ (hN rows _ X h1 g c _ (by omega) hX (Hp.le_trans o2.sub (Hp.le_trans (Hp.le_st o2.fT o2.fF) hle1)) (le_none (Hp.le_trans o2.sub (Hp.le_st o2.fT o2.fF)) hg1) hr3 (toksOf_len _ _)) (fun _ _ q => q.1) ?_
          rintro v h2 ⟨_, X2, hX2, hXl, hk2⟩
          obtain ⟨x2, y2, rfl⟩ := hR2 _ _ _ hX2
          obtain ⟨hG2, rfl, o3⟩ := o2.step hle1 hg1 hXl hk2
          conv => whnf
          refine .ok (by omega) (by omega) ?_
          conv => whnf
          refine ⟨(k + 1, hG2, X2, (x2, y2), bump f zs[k].toNat, rows ++ [toksOf arcs (bump f zs[k].toNat)]), rfl, rfl, ⟨rfl, o3, hX2, by simp [hrl], hk', hr1, ?_⟩, by show r - (k + 1) < r - k; omega⟩
          rw [hr2]; simp
      · rw [List.drop_eq_nil_of_le (by omega), alongR] at hr1 hr2
        conv => whnf
        refine .done ⟨o.atG.all, fun q => ?_, fun _ => ⟨_, X, rfl, ?_, Hp.le_trans o.sub (Hp.le_st o.fT o.fF), Disj.mono o.at_.le o.dis⟩⟩
        · rw [hal] at q; exact absurd hr1 q
        · rw [hal]; show R (_ :: _) _ X; rw [hr2]; simpa using hX
  · conv => whnf
    refine .done (.mk _ (new16_bad N n cap arcs A h ht hn hs) ?_)
    rintro _ h2 ⟨rfl, rfl⟩
    conv => whnf
    refine br_dec (fun h1 => ?_) (fun h1 => absurd h1 (by simpa using hs))
    conv => whnf
    refine .done ⟨Hp.le_refl _, fun _ => ?_, fun q => ?_⟩
    · rw [along_bad hs]; rfl
    · rw [along_bad hs] at q; exact absurd q hs
end Go.Sx
