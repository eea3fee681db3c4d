/- PeaksNames: the law's own function answers true. Conditions: none. -/
import Derived.Test.YtfdcoiiaiihdnaaN18L
namespace Go.Sx
open Go.Proofs
theorem free_ok (k : Nat) (hk : k ≤ 2048) : (along 1 [] (List.replicate k 0)).1 = 0 ∧ (along 1 [] (List.replicate k 0)).2.length = k + 1 := by
  have key : ∀ (k : Nat) (f : List Int), f.length = 1 → (alongR 1 [] (List.replicate k 0) f).1 = 0 ∧ (alongR 1 [] (List.replicate k 0) f).2.length = k := by
    intro k
    induction k with
    | zero => intro f _; exact ⟨rfl, rfl⟩
    | succ k ih =>
      intro f hf
      have hm : may 1 [] f 0 = true := (may_iff (v := 0)).2 ⟨by decide, by simp⟩
      have h2 := ih (bump f (0 : Int).toNat) (by simp [bump, hf])
      rw [List.replicate_succ, alongR, if_neg (by omega), hm, if_pos rfl]
      exact ⟨h2.1, by simpa using h2.2⟩
  have h := key k (List.replicate 1 0) rfl
  rw [along, if_pos (by decide), if_neg (by simp; omega)]
  exact ⟨h.1, by simpa using h.2⟩
theorem over29_long (fn : FuncId) (N n cap : Nat) (arcs : List Arc) (A D : Option Addr) (r cap2 : Nat) (h : Hp) (ht : Tab h 5 A n (arcs.map Arc.cells)) (hn : n * 40 ≤ 140737488355328) (hs : chk N arcs = 0) (hr : 2048 < r) :
    Fn Try.prog 29 #[netV N A n cap, .slice D r cap2, .slice none 0 0, .func (.func fn) #[] #[]] h fun v h' => v = .tuple #[.slice none 0 0, iv 2] ∧ h.le h' := by
  refine Fn.intro (args := [netV N A n cap, .slice D r cap2, .slice none 0 0, .func (.func fn) #[] #[]]) mix14 Try.func29 rfl (by decide) Try.ntmps29 rfl (low29 rfl) rfl ?_
  conv => whnf
  refine .done (.mk _ (new16 N n cap arcs A h ht hn hs) ?_)
  rintro _ _ ⟨hF, b, gt, gf, rfl, hleF, web, rfl⟩
  obtain ⟨Aa, Ai, Ao, ca, ci, co, I, O, w0⟩ := web.ex
  have fT := w0.freeT
  have fF := w0.freeF
  conv => whnf
  refine br_dec (fun h2 => ?_) (fun h2 => absurd (show (2048 : Int) < r by omega) h2)
  conv => whnf
  exact .done ⟨rfl, Hp.le_trans hleF (Hp.le_st fT fF)⟩
theorem along12_long (N n cap : Nat) (arcs : List Arc) (A D : Option Addr) (r cap2 : Nat) (h : Hp) (ht : Tab h 5 A n (arcs.map Arc.cells)) (hn : n * 40 ≤ 140737488355328) (hs : chk N arcs = 0) (hr : 2048 < r) :
    Fn Try.prog 12 #[netV N A n cap, .slice D r cap2] h fun v h' => v = .tuple #[.slice none 0 0, iv 2] ∧ h.le h' := by
  refine Fn.intro (args := [netV N A n cap, .slice D r cap2]) mix14 Try.func12 rfl (by decide) Try.ntmps12 rfl (low12 rfl) rfl ?_
  conv => whnf
  refine .done (.mk _ (over29_long 30 N n cap arcs A D r cap2 h ht hn hs hr) ?_)
  rintro _ h' ⟨rfl, hle⟩
  conv => whnf
  exact .done ⟨rfl, hle⟩
theorem rep_add (k : Nat) : List.replicate k (iv 0) ++ [iv 0] = (List.replicate (k + 1) (0 : Int)).map iv := by
  rw [List.map_replicate, List.replicate_succ']
set_option maxRecDepth 100000 in
theorem lawP9 (h : Hp) : Fn Try.prog 9 #[] h fun v h' => v = .bool true ∧ h.le h' := by
  refine Fn.intro (args := []) mix14 Try.func9 rfl (by decide) Try.ntmps9 rfl (low9 rfl) rfl ?_
  conv => whnf
  refine .mkS [0] (Nat × Option Addr × Nat) [1, 2, 3] (fun (k, A, c) => [.p 0 0, .v (.slice A k c), .v (iv k)]) (fun _ => [.own [.v (iv 1), .v (.slice none 0 0)] 24])
    (fun (k, A, c) h' => k ≤ 2048 ∧ h.le h' ∧ RowAt h' 3 1 A k c ((List.replicate k (0 : Int)).map iv) ∧ ∀ g, A = some g → h g.block = none) (fun (k, _, _) => 2048 - k) (0, none, 0) (fun (_, _, _) => rfl)
    ⟨Nat.zero_le _, Hp.le_refl _, ⟨rfl, .inl ⟨rfl, rfl, rfl⟩⟩, by simp⟩ rfl rfl rfl ?_
  rintro ⟨k, A, c⟩ e h' ⟨hk, hle, hro, hfr⟩
  refine .done ?_
  conv => whnf
  refine br_dec (fun u => ?_) (fun u => ?_)
  · conv => whnf
    refine .abs 3 1 A k c _ hro (.done (.old 2 _ [iv 0] rfl rfl (nums_one [0]) (by simp [maxLen]; omega) (by omega) fun A2 c2 hA2 => ?_))
    conv => whnf
    refine .ok (by omega) (by omega) ?_
    conv => whnf
    refine .pub 2 3 1 A2 (k + 1) c2 _ rfl fun h2 hle2 hr2 hf2 => .done ⟨(k + 1, A2, c2), rfl, rfl, ⟨by omega, Hp.le_trans (delA_none hle hfr) hle2, ?_, fun g hg => le_none (delA_none hle hfr) (hf2 g hg)⟩, by show 2048 - (k + 1) < 2048 - k; omega⟩
    have hr2 : RowAt h2 3 1 A2 (k + 1) c2 ((List.replicate k (0 : Int)).map iv ++ [iv 0]) := hr2
    rw [List.map_replicate, rep_add] at hr2
    exact hr2
  obtain rfl : k = 2048 := by omega
  obtain ⟨f1, f2⟩ := free_ok 2048 (by decide)
  conv => whnf
  refine .done (.mkS _ (along12 1 0 0 [] none A 2048 c (List.replicate 2048 0) h' (Tab.nil _ _ _) (by decide) hro.one) ?_)
  rintro v1 h1 ⟨l1, _, g1⟩
  obtain ⟨v1, X1, rfl, ⟨B1, c1, J1, rfl, _⟩, _, _⟩ := g1 f1
  rw [f2]
  have hd1 := delA_none (hle.trans' l1) hfr
  refine .abs 3 1 A 2048 c _ (hro.mono l1) (.done ?_)
  generalize hD : delA h1 A = hD1 at hd1 ⊢
  conv => whnf
  refine EvAppend.old 1 _ [iv 0] rfl rfl (nums_one [0]) (by simp [maxLen]) (by omega) fun A2 c2 hA2 => ?_
  conv => whnf
  refine .mk _ (along12_long 1 0 0 [] none A2 2049 c2 hD1 (Tab.nil _ _ _) (by decide) (by decide) (by decide)) (fun _ _ q => q.2) ?_
  rintro _ h2 ⟨rfl, l2⟩
  have hh2 := hd1.trans' l2
  conv => whnf
  refine .done (.mk _ (two28 h2) ?_)
  rintro _ h3 ⟨A3, rfl, l3, t3⟩
  conv => whnf
  refine .mk fun b3 hb3 => ?_
  conv => whnf
  refine .done (.mk _ (most19 2 2 2 twoArcs A3 _ 2 2 [0, 2] _ (t3.mono (Hp.le_put hb3)) (by decide) (litNums put_at rfl)) ?_)
  rintro v4 h4 ⟨l4, b4, _⟩
  rw [show (along 2 twoArcs [0, 2]).1 = 100 by decide +kernel] at b4
  obtain rfl := b4 (by decide)
  have hh4 := hh2.trans' (l3.trans' ((Hp.le_put hb3).trans' l4))
  conv => whnf
  refine .done (.mk _ (two28 h4) ?_)
  rintro _ h5 ⟨A5, rfl, l5, t5⟩
  conv => whnf
  refine .mk fun b5 hb5 => ?_
  conv => whnf
  refine .done (.mk _ (home22 2 2 2 twoArcs A5 _ 3 3 [0, 0, 0] _ (t5.mono (Hp.le_put hb5)) (by decide) (litNums put_at rfl)) ?_)
  rintro _ h6 ⟨rfl, l6⟩
  rw [show (along 2 twoArcs [0, 0, 0]).1 = 180 by decide +kernel, show homeOf 2 twoArcs [0, 0, 0] = false by decide +kernel]
  have hh6 := hh4.trans' (l5.trans' ((Hp.le_put hb5).trans' l6))
  conv => whnf
  refine .done (.mk _ (home22 0 0 0 [] none none 0 0 [] h6 (Tab.nil _ _ _) (by decide) (Tab.nil _ _ _)) ?_)
  rintro _ h7 ⟨rfl, l7⟩
  rw [show (along 0 [] []).1 = 100 by decide +kernel, show homeOf 0 [] [] = false by decide +kernel]
  conv => whnf
  refine .done (.mk _ (awake16 _) ?_)
  rintro _ h8 ⟨rfl, l8⟩
  conv => whnf
  exact .done ⟨rfl, hh6.trans' (l7.trans' l8)⟩
end Go.Sx
