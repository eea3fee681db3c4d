/- PeaksSteps: the law's own function answers true. Conditions: none. -/
import Derived.Test.YtfdcoiiaiihdnaaC10
import Derived.Test.YtfdcoiiaiihdnaaN18L
namespace Go.Sx
open Go.Proofs
theorem RowAt.unst {hH : Hp} {gt gf n c : Nat} {t f : List Int} {ety size : Nat} {A : Option Addr} {xs : List Value} (x : RowAt (st hH gt gf t f) ety size A n c xs) (hg : ∀ g, A = some g → g.block ≠ gt ∧ g.block ≠ gf) : RowAt hH ety size A n c xs := by
  obtain ⟨h1, h2⟩ := x
  refine ⟨h1, ?_⟩
  rcases h2 with h2 | ⟨b, cur, e1, e2, e3⟩
  · exact .inl h2
  · obtain ⟨n1, n2⟩ := hg _ e1
    exact .inr ⟨b, cur, e1, by rw [st_other n1 n2] at e2; exact e2, e3⟩
/-- a list copied beside a state: it fires -/
theorem fireList {h0 hG : Hp} {b gt gf N T r c : Nat} {arcs : List Arc} {f zs : List Int} {A : Option Addr} (hs : chk N arcs = 0) (a : At h0 hG b gt gf N arcs f T) (hT : T + r ≤ 70368744177664) {h' : Hp} (hle : (st hG gt gf (toksOf arcs f) f).le h') (hr : RowAt h' 3 1 A r c (zs.map iv)) (hf : ∀ g, A = some g → st hG gt gf (toksOf arcs f) f g.block = none) :
    Fn Try.prog 26 #[ptr b, .slice A r c] h' fun v h2 => v = iv (fireRun N arcs zs f).1 ∧ ∃ hH, h2 = st hH gt gf (toksOf arcs (fireRun N arcs zs f).2) (fireRun N arcs zs f).2 ∧ At h0 hH b gt gf N arcs (fireRun N arcs zs f).2 (T + r) := by
  obtain ⟨hH, rfl, aH⟩ := a.grow hle
  obtain ⟨Aa, Ai, Ao, ca, ci, co, I, O, w0⟩ := aH.web.ex
  have hzl : zs.length = r := by have := hr.1; simpa using this
  have hr2 := hr.unst fun g e => by
    have := hf g e
    exact ⟨fun q => (by rw [q, st_gt w0.ne] at this; cases this), fun q => (by rw [q, st_gf] at this; cases this)⟩
  have x := fire17 aH.web hs zs f A r c T hr2.one aH.good hT
  refine x.mono ?_
  rintro v h2 ⟨rfl, rfl⟩
  have hg := run_good hs zs f T aH.good
  rw [hzl] at hg
  exact ⟨rfl, hH, rfl, aH.le, aH.web, hg⟩
theorem updL_self : ∀ (slots : List Nat) (e : Env), updL e slots (slots.map e) = e
  | [], e => rfl
  | d :: ds, e => by
    have h1 : upd e d (e d) = e := by
      funext t
      unfold upd
      cases hb : Nat.beq t d with
      | true => rw [Nat.eq_of_beq_eq_true hb]; rfl
      | false => rfl
    rw [List.map_cons, updL, h1]
    exact updL_self ds e
theorem wpIR_seq {P : Program} {n : Nat} {x y : IR} {Q : Post} {e : Env} {L : List LE} {h : Hp} : wpIR P n (.seq x y) Q e L h = wpIR P n x (fun ex e L h => match ex with | .normal => wpIR P n y Q e L h | ex => Q ex e L h) e L h := rfl
theorem wpIR_block {P : Program} {n id : Nat} {x : IR} {Q : Post} {e : Env} {L : List LE} {h : Hp} : wpIR P n (.block id x) Q e L h = wpIR P n x (fun ex e L h => match ex with | .exit j => bif Nat.beq j id then Q .normal e L h else Q (.exit j) e L h | ex => Q ex e L h) e L h := rfl
noncomputable def irH6 : IR := (IR.seq (IR.reg ir6_r16) (IR.cond (Arg.t 105) IR.skip (IR.exit 2)))
noncomputable def irA6 : IR := (IR.seq (IR.reg ir6_r17) (IR.cond (Arg.t 109) (IR.seq (IR.seq (IR.odd ir6_r18) (IR.cond (Arg.t 117) (IR.seq (IR.reg ir6_r19) (IR.seq (IR.reg ir6_r20) (IR.cond (Arg.t 123) (IR.seq (IR.reg ir6_r21) IR.ret) IR.skip))) IR.skip)) (IR.seq (IR.odd ir6_r22) (IR.cond (Arg.t 131) (IR.reg ir6_r23) IR.skip))) IR.skip))
noncomputable def irT6 : IR := (IR.seq (IR.odd ir6_r24) (IR.cond (Arg.t 159) (IR.seq (IR.reg ir6_r25) IR.ret) IR.skip))
theorem l2_eq : ir6_l2 = .seq irH6 (.seq (.block 3 (.seq irA6 irT6)) (.reg ir6_r26)) := rfl
theorem stepH (Q : Post) (e : Env) (h' : Hp) (N : Int) (A D B : Option Addr) (n cap r cap2 m c b i : Nat) (a : Arc) (k : Nat) (z : Int) (he : [1, 2, 5, 7, 10, 11, 12, 13].map e = [.v (.slice D r cap2), .p 0 0, .v (.slice B m c), .v (ptr b), .v (iv i), .p 1 0, .v (iv z), .v (iv k)])
    (h1 : k < m → ∀ e, [1, 2, 5, 7, 10, 11, 12, 13].map e = [.v (.slice D r cap2), .p 0 0, .v (.slice B m c), .v (ptr b), .v (iv i), .p 1 0, .v (iv z), .v (iv k)] → Q .normal e [.own [.v (iv N), .v (.slice A n cap)] 24, .own [.v (iv a.src), .v (iv a.dst), .v (iv a.give), .v (iv a.take), .v (iv a.start)] 50] h') (h2 : m ≤ k → ∀ e, [1, 2, 5, 7, 10].map e = [.v (.slice D r cap2), .p 0 0, .v (.slice B m c), .v (ptr b), .v (iv i)] → Q (.exit 2) e [.own [.v (iv N), .v (.slice A n cap)] 24, .own [.v (iv a.src), .v (iv a.dst), .v (iv a.give), .v (iv a.take), .v (iv a.start)] 50] h') :
    wpIR Try.prog 181 irH6 Q e [.own [.v (iv N), .v (.slice A n cap)] 24, .own [.v (iv a.src), .v (iv a.dst), .v (iv a.give), .v (iv a.take), .v (iv a.start)] 50] h' := by
  have hself := updL_self [1, 2, 5, 7, 10, 11, 12, 13] e
  rw [he] at hself
  rw [← hself]
  conv => whnf
  refine br_dec (fun u => ?_) (fun u => ?_)
  · conv => whnf
    exact h1 (by omega) _ rfl
  · conv => whnf
    exact h2 (by omega) _ rfl
theorem stepA (Q : Post) (e : Env) (h' : Hp) (N : Int) (A D B : Option Addr) (n cap r cap2 m c b i : Nat) (a : Arc) (k : Nat) (z : Int) (w zk : Int) (g1 : Addr) (he : [1, 2, 5, 7, 10, 11, 12, 13].map e = [.v (.slice D r cap2), .p 0 0, .v (.slice B m c), .v (ptr b), .v (iv i), .p 1 0, .v (iv z), .v (iv k)]) (hk : k ≤ 2049) (hb : 1 ≤ a.give ∧ a.give ≤ 64 ∧ 1 ≤ a.take ∧ a.take ≤ 64)
    (h0 : k = 0 → w = z) (hp : 0 < k → D = some g1 ∧ k - 1 < r ∧ h'.cell? (g1.add ((((k - 1 : Nat) : Int)).toNat * 1)) = some (iv zk) ∧ w = z - (if a.dst = zk then a.take else 0) + (if a.src = zk then a.give else 0) ∧ 0 ≤ z ∧ z ≤ 140000 ∧ (a.dst = zk → a.take ≤ z))
    (hQ : ∀ e, [1, 2, 5, 7, 10, 11, 12, 13].map e = [.v (.slice D r cap2), .p 0 0, .v (.slice B m c), .v (ptr b), .v (iv i), .p 1 0, .v (iv w), .v (iv k)] → Q .normal e [.own [.v (iv N), .v (.slice A n cap)] 24, .own [.v (iv a.src), .v (iv a.dst), .v (iv a.give), .v (iv a.take), .v (iv a.start)] 50] h') :
    wpIR Try.prog 181 irA6 Q e [.own [.v (iv N), .v (.slice A n cap)] 24, .own [.v (iv a.src), .v (iv a.dst), .v (iv a.give), .v (iv a.take), .v (iv a.start)] 50] h' := by
  have hself := updL_self [1, 2, 5, 7, 10, 11, 12, 13] e
  rw [he] at hself
  rw [← hself]
  by_cases hk0 : k = 0
  · obtain rfl := h0 hk0
    conv => whnf
    refine br_dec (fun u => by omega) (fun u => ?_)
    conv => whnf
    exact hQ _ rfl
  · obtain ⟨hD, hkr, hld, s1, s2, s3, s4⟩ := hp (by omega)
    conv => whnf
    refine br_dec (fun _ => ?_) (fun q => by omega)
    conv => whnf
    refine .ok (by omega) (by omega) ?_
    rw [show (k : Int) - 1 = ((k - 1 : Nat) : Int) by omega]
    conv => whnf
    refine .mk g1 hD (by omega) (by omega) ?_
    conv => whnf
    refine .hp _ hld ?_
    conv => whnf
    refine br_dec (fun c1 => ?_) (fun c1 => ?_)
    · have s4 := s4 c1
      rw [if_pos c1] at s1
      conv => whnf
      refine .ok (by omega) (by omega) ?_
      conv => whnf
      refine br_dec (fun q => by omega) (fun _ => ?_)
      conv => whnf
      refine .ok (by omega) (by omega) ?_
      rw [show (k : Int) - 1 = ((k - 1 : Nat) : Int) by omega]
      conv => whnf
      refine .mk g1 hD (by omega) (by omega) ?_
      conv => whnf
      refine .hp _ hld ?_
      conv => whnf
      refine br_dec (fun c2 => ?_) (fun c2 => ?_)
      · rw [if_pos c2] at s1
        conv => whnf
        refine .ok (by omega) (by omega) ?_
        conv => whnf
        exact hQ _ (by rw [s1]; rfl)
      · rw [if_neg c2, Int.add_zero] at s1
        conv => whnf
        exact hQ _ (by rw [s1]; rfl)
    · rw [if_neg c1, Int.sub_zero] at s1
      conv => whnf
      refine .ok (by omega) (by omega) ?_
      rw [show (k : Int) - 1 = ((k - 1 : Nat) : Int) by omega]
      conv => whnf
      refine .mk g1 hD (by omega) (by omega) ?_
      conv => whnf
      refine .hp _ hld ?_
      conv => whnf
      refine br_dec (fun c2 => ?_) (fun c2 => ?_)
      · rw [if_pos c2] at s1
        conv => whnf
        refine .ok (by omega) (by omega) ?_
        conv => whnf
        exact hQ _ (by rw [s1]; rfl)
      · rw [if_neg c2, Int.add_zero] at s1
        conv => whnf
        exact hQ _ (by rw [s1]; rfl)
theorem stepT (Q : Post) (e : Env) (h' : Hp) (N : Int) (A D B : Option Addr) (n cap r cap2 m c b i : Nat) (a : Arc) (k : Nat) (z : Int) (g5 gJ : Addr) (cJ : Nat) (he : [1, 2, 5, 7, 10, 11, 12, 13].map e = [.v (.slice D r cap2), .p 0 0, .v (.slice B m c), .v (ptr b), .v (iv i), .p 1 0, .v (iv z), .v (iv k)]) (_ : m ≤ 2049) (_ : n ≤ 96) (hB : B = some g5) (hk : k < m) (hld : h'.cell? (g5.add ((k : Int).toNat * 1)) = some (.slice (some gJ) n cJ)) (hi : i < n) (hin : h'.cell? (gJ.add ((i : Int).toNat * 1)) = some (iv z)) (h0 : 0 ≤ z)
    (hQ : ∀ e, [1, 2, 5, 7, 10, 11, 12, 13].map e = [.v (.slice D r cap2), .p 0 0, .v (.slice B m c), .v (ptr b), .v (iv i), .p 1 0, .v (iv z), .v (iv k)] → Q .normal e [.own [.v (iv N), .v (.slice A n cap)] 24, .own [.v (iv a.src), .v (iv a.dst), .v (iv a.give), .v (iv a.take), .v (iv a.start)] 50] h') :
    wpIR Try.prog 181 irT6 Q e [.own [.v (iv N), .v (.slice A n cap)] 24, .own [.v (iv a.src), .v (iv a.dst), .v (iv a.give), .v (iv a.take), .v (iv a.start)] 50] h' := by
  have hself := updL_self [1, 2, 5, 7, 10, 11, 12, 13] e
  rw [he] at hself
  rw [← hself]
  conv => whnf
  refine .mk g5 hB (by omega) (by omega) ?_
  conv => whnf
  refine .hp _ hld ?_
  conv => whnf
  refine br_dec (fun q => (q rfl).elim) (fun _ => ?_)
  conv => whnf
  refine .mk g5 hB (by omega) (by omega) ?_
  conv => whnf
  refine .hp _ hld ?_
  conv => whnf
  refine .mk gJ rfl (by omega) (by omega) ?_
  conv => whnf
  refine .hp _ hin ?_
  conv => whnf
  refine br_dec (fun q => (q rfl).elim) (fun _ => ?_)
  conv => whnf
  refine br_dec (fun q => by omega) (fun _ => ?_)
  conv => whnf
  exact hQ _ rfl
theorem stepLoop (Q : Post) (e : Env) (L : List LE) (N r cap cap2 c b i : Nat) (arcs : List Arc) (A D B : Option Addr) (zs : List Int) (rows : List (List Int)) (J : Nat → Addr × Nat) (a : Arc) (h' : Hp) (he : (along N arcs zs).1 = 0) (hzl : zs.length = r) (hz6 : Tab h' 1 D r (zs.map fun z => [iv z])) (hr8 : r ≤ 2048)
    (hal : rows.length = zs.length + 1) (hrow : ∀ k, k ≤ zs.length → rows.getD k [] = toksOf arcs (endOf (zs.take k) (List.replicate (N : Int).toNat 0))) (hrl6 : ListsAt h' B rows fun i => (some (J i).1, (J i).2)) (hlens : ∀ i, i < rows.length → (rows.getD i []).length = arcs.length) (hsz : arcs.length ≤ 96)
    (hi' : i < arcs.length) (ha : a = arcs[i]) (hm : a ∈ arcs) (hb : 1 ≤ a.give ∧ a.give ≤ 64 ∧ 1 ≤ a.take ∧ a.take ≤ 64)
    (heE : [1, 2, 5, 7, 10, 11, 12, 13].map e = [.v (.slice D r cap2), .p 0 0, .v (.slice B rows.length c), .v (ptr b), .v (iv i), .p 1 0, .v (iv a.start), .v (iv (0 : Nat))])
    (hL : L.take 2 = [.own [.v (iv N), .v (.slice A arcs.length cap)] 24, .own [.v (iv a.src), .v (iv a.dst), .v (iv a.give), .v (iv a.take), .v (iv a.start)] 50])
    (hQ : ∀ e, [1, 2, 5, 7, 10].map e = [.v (.slice D r cap2), .p 0 0, .v (.slice B rows.length c), .v (ptr b), .v (iv i)] → Q (.exit 2) e [.own [.v (iv N), .v (.slice A arcs.length cap)] 24, .own [.v (iv a.src), .v (iv a.dst), .v (iv a.give), .v (iv a.take), .v (iv a.start)] 50] h') :
    EvLoop (fun Q e L h => wpIR Try.prog 181 ir6_l2 Q e L h) Q e L h' := by
  have hz0 := atK_zero N zs a
  refine .mk (Nat × Int) [1, 2, 5, 7, 10, 11, 12, 13] (fun (k, z) => [.v (.slice D r cap2), .p 0 0, .v (.slice B rows.length c), .v (ptr b), .v (iv i), .p 1 0, .v (iv z), .v (iv k)])
    (fun _ => [.own [.v (iv N), .v (.slice A arcs.length cap)] 24, .own [.v (iv a.src), .v (iv a.dst), .v (iv a.give), .v (iv a.take), .v (iv a.start)] 50]) (fun (k, z) h'' => h'' = h' ∧ k ≤ rows.length ∧ z = (if k = 0 then a.start else atK N zs a (k - 1))) (fun (k, _) => rows.length - k) (0, a.start) (fun (_, _) => rfl) ⟨rfl, Nat.zero_le _, rfl⟩ heE hL ?_
  rintro ⟨k, z⟩ e2 h'' ⟨rfl, hk, hzk⟩
  rw [l2_eq, wpIR_seq]
  refine stepH _ _ h'' N A D B arcs.length cap r cap2 rows.length c b i a k z rfl (fun hlt e3 he3 => ?_) (fun hge e3 he3 => hQ e3 he3)
  have hkz : k ≤ zs.length := by omega
  obtain ⟨bl, bh⟩ := atK_last he hkz hm
  obtain ⟨g5, hg5⟩ := hrl6.outer.ad (by omega)
  have hln := hlens k hlt
  have hrk := hrow k hkz
  rw [Int.toNat_natCast] at hrk
  have hin := hrl6.inner k hlt
  rw [hln] at hin
  have hval : ((rows.getD k []).map fun z => [iv z])[i]? = some [iv (atK N zs a k)] := by
    rw [hrk, ha]; simp [toksOf, hi', atK]
  have hld5 : h''.cell? (g5.add ((k : Int).toNat * 1)) = some (.slice (some (J k).1) arcs.length (J k).2) := by
    rw [Int.toNat_natCast, ← hln]; exact hrl6.outer.one hg5 (map_range hlt) rfl
  have hinl : h''.cell? ((J k).1.add ((i : Int).toNat * 1)) = some (iv (atK N zs a k)) := by
    rw [Int.toNat_natCast]; exact hin.one rfl hval rfl
  have fin : ∀ zk g1, (0 < k → D = some g1 ∧ k - 1 < r ∧ h''.cell? (g1.add ((((k - 1 : Nat) : Int)).toNat * 1)) = some (iv zk) ∧ atK N zs a k = z - (if a.dst = zk then a.take else 0) + (if a.src = zk then a.give else 0) ∧ 0 ≤ z ∧ z ≤ 140000 ∧ (a.dst = zk → a.take ≤ z)) →
      wpIR Try.prog 181 (.seq (.block 3 (.seq irA6 irT6)) (.reg ir6_r26)) (fun ex e' L' h' => match ex with
        | .normal => ∃ x' : Nat × Int, [1, 2, 5, 7, 10, 11, 12, 13].map e' = (match x' with | (k, z) => [.v (.slice D r cap2), .p 0 0, .v (.slice B rows.length c), .v (ptr b), .v (iv i), .p 1 0, .v (iv z), .v (iv k)]) ∧ L'.take 2 = [.own [.v (iv N), .v (.slice A arcs.length cap)] 24, .own [.v (iv a.src), .v (iv a.dst), .v (iv a.give), .v (iv a.take), .v (iv a.start)] 50] ∧ (match x' with | (k, z) => h' = h'' ∧ k ≤ rows.length ∧ z = (if k = 0 then a.start else atK N zs a (k - 1))) ∧ (match x' with | (k, _) => rows.length - k) < rows.length - k
        | ex => Q ex e' L' h') e3 [.own [.v (iv N), .v (.slice A arcs.length cap)] 24, .own [.v (iv a.src), .v (iv a.dst), .v (iv a.give), .v (iv a.take), .v (iv a.start)] 50] h'' := fun zk g1 hp => by
    rw [wpIR_seq, wpIR_block, wpIR_seq]
    refine stepA _ _ h'' N A D B arcs.length cap r cap2 rows.length c b i a k z (atK N zs a k) zk g1 he3 (by omega) hb (fun hk0 => by subst hk0; rw [hz0, hzk, if_pos rfl]) hp (fun e4 he4 => ?_)
    show wpIR Try.prog 181 irT6 _ e4 _ _
    refine stepT _ _ h'' N A D B arcs.length cap r cap2 rows.length c b i a k (atK N zs a k) g5 (J k).1 (J k).2 he4 (by omega) hsz hg5 hlt hld5 hi' hinl bl (fun e5 he5 => ?_)
    show wpIR Try.prog 181 (.reg ir6_r26) _ e5 _ _
    have hself := updL_self [1, 2, 5, 7, 10, 11, 12, 13] e5
    rw [he5] at hself
    rw [← hself]
    conv => whnf
    refine .ok (by omega) (by omega) ?_
    conv => whnf
    refine ⟨(k + 1, atK N zs a k), rfl, rfl, ⟨rfl, hlt, ?_⟩, by show rows.length - (k + 1) < rows.length - k; omega⟩
    rw [if_neg (by omega), Nat.add_sub_cancel]
  by_cases hk0 : k = 0
  · exact fin 0 ⟨0, 0, none⟩ (fun q => by omega)
  · rw [if_neg hk0] at hzk
    obtain ⟨s1, s2, s3, s4⟩ := atK_step he (k := k - 1) (by omega) hm
    rw [show k - 1 + 1 = k by omega, ← hzk] at s1
    rw [← hzk] at s2 s3 s4
    obtain ⟨g1, hg1⟩ := hz6.ad (by omega)
    refine fin (zs[k - 1]'(by omega)) g1 (fun _ => ⟨hg1, by omega, ?_, s1, s2, by omega, s4⟩)
    rw [Int.toNat_natCast]; exact hz6.one hg1 (r := [iv (zs[k - 1]'(by omega))]) (by simp [show k - 1 < zs.length by omega]) rfl
theorem lawP6 (N : Int) (A D : Option Addr) (n r cap cap2 : Nat) (arcs : List Arc) (zs : List Int) (h : Hp) (ht : Tab h 5 A n (arcs.map Arc.cells)) (hz : Tab h 1 D r (zs.map fun z => [iv z]))
    (hn : n * 40 ≤ 140737488355328) (hr : r * 8 ≤ 140737488355328) :
    Fn Try.prog 6 #[netV N A n cap, .slice D r cap2] h fun v h' => v = .bool true ∧ h.le h' := by
  obtain rfl : arcs.length = n := by simpa using ht.len
  have hzl : zs.length = r := by simpa using hz.len
  refine Fn.intro (args := [netV N A arcs.length cap, .slice D r cap2]) mix14 Try.func6 rfl (by decide) Try.ntmps6 rfl (low6 rfl) rfl ?_
  conv => whnf
  refine .done (.mk _ (lentNet10 N A arcs.length cap arcs h ht hn) ?_)
  rintro _ h1 ⟨l1, A1, c1, rfl, t1⟩
  conv => whnf
  refine .done (.mk _ (ints24 D r cap2 zs h1 (hz.mono l1) hr) ?_)
  rintro _ h2 ⟨l2, D2, d2, rfl, q2, _⟩
  conv => whnf
  refine .done (.mk _ (along12 N arcs.length c1 arcs A1 D2 r d2 zs h2 (t1.mono l2).tab (by omega) q2.one) ?_)
  rintro v1 h3 ⟨l3, b3, g3⟩
  have ll3 := l1.trans' (l2.trans' l3)
  by_cases hs : chk N arcs = 0
  · have hNb := chk_zero hs
    obtain ⟨N, rfl⟩ : ∃ q : Nat, N = q := ⟨N.toNat, by omega⟩
    by_cases he : (along N arcs zs).1 = 0
    · obtain ⟨v1, X1, rfl, ⟨B, c, J, rfl, q1⟩, x1, _⟩ := g3 he
      have hal := along_len he
      obtain ⟨_, hr8, hR, _⟩ := along_parts he
      rw [Int.toNat_natCast] at hR
      have hrow := fun k hk => along_row he (k := k) hk
      have hrl := q1.lists.mono x1
      have hlens := q1.lens
      generalize hrows : (along N arcs zs).2 = rows at *
      conv => whnf
      refine .done (.mk _ (lentNet10 N A arcs.length cap arcs h3 (ht.mono ll3) hn) ?_)
      rintro _ h4 ⟨l4, A4, c4, rfl, t4⟩
      conv => whnf
      refine .done (.mk _ (new16 N arcs.length c4 arcs A4 h4 t4.tab hn hs) ?_)
      rintro _ _ ⟨hF, b, gt, gf, rfl, hleF, web, rfl⟩
      have a0 : At h4 hF b gt gf N arcs (List.replicate N 0) 0 := ⟨hleF, web, good_zero hs⟩
      have hl6 : h4.le (st hF gt gf (toksOf arcs (List.replicate N 0)) (List.replicate N 0)) := a0.all
      have hrl6 := hrl.mono (l4.trans' hl6)
      have ht6 := ht.mono (ll3.trans' (l4.trans' hl6))
      have hz6 := hz.mono (ll3.trans' (l4.trans' hl6))
      have hh6 := ll3.trans' (l4.trans' hl6)
      generalize hH6 : st hF gt gf (toksOf arcs (List.replicate N 0)) (List.replicate N 0) = h6 at hrl6 ht6 hz6 hl6 hh6 ⊢
      conv => whnf
      refine .ok (by omega) (by omega) ?_
      conv => whnf
      refine br_dec (fun q => by omega) (fun _ => ?_)
      conv => whnf
      refine .mk Nat [1, 2, 5, 7, 10] (fun i => [.v (.slice D r cap2), .p 0 0, .v (.slice B rows.length c), .v (ptr b), .v (iv i)]) (fun _ => [.own [.v (iv N), .v (.slice A arcs.length cap)] 24]) (fun i h' => h' = h6 ∧ i ≤ arcs.length) (fun i => arcs.length - i) 0 (fun _ => rfl) ⟨rfl, Nat.zero_le _⟩ rfl rfl ?_
      rintro i e h' ⟨rfl, hi⟩
      conv => whnf
      refine br_dec (fun u1 => ?_) (fun u1 => ?_)
      · have hi' : i < arcs.length := by omega
        have hm := List.getElem_mem hi'
        have hb := okArc_zero (hNb.2.2.2 _ hm)
        obtain ⟨a, ha⟩ : ∃ a : Arc, a = arcs[i] := ⟨_, rfl⟩
        rw [← ha] at hb hm
        obtain ⟨g, hg⟩ := ht.ad (by omega)
        conv => whnf
        refine .mk g hg (by omega) (by omega) ?_
        conv => whnf
        refine .hp a.cells rfl (by rw [Int.toNat_natCast, ha]; exact ht6.row hg (map_get hi')) ?_
        conv => whnf
        refine stepLoop _ _ _ N r cap cap2 c b i arcs A D B zs rows J a h' he hzl hz6 (by omega) hal hrow hrl6 hlens hNb.2.2.1 hi' ha hm ⟨by omega, by omega, by omega, by omega⟩ rfl rfl (fun e3 he3 => ?_)
        have hself := updL_self [1, 2, 5, 7, 10] e3
        rw [he3] at hself
        rw [← hself]
        conv => whnf
        refine .ok (by omega) (by omega) ?_
        conv => whnf
        exact ⟨i + 1, rfl, rfl, ⟨rfl, hi'⟩, by omega⟩
      · conv => whnf
        refine .mk _ (awake16 _) (fun _ _ q => q.2) ?_
        rintro _ h7 ⟨rfl, l7⟩
        rw [← hH6] at l7
        obtain ⟨hH, rfl, aH⟩ := a0.grow l7
        rw [hH6] at l7
        have hh7 := hh6.trans' l7
        conv => whnf
        refine .mk _ (ints24 D r cap2 zs _ (hz.mono hh7) hr) (fun _ _ q => q.1) ?_
        rintro _ h8 ⟨l8, D8, d8, rfl, q8, f8⟩
        have hrl8 := (hrl6.mono l7).mono l8
        have hall := fireRun_all zs _ hR
        have fl := fireList hs aH (by omega) l8 q8 f8
        rw [hall] at fl
        conv => whnf
        refine .done (.mk _ fl ?_)
        rintro _ _ ⟨rfl, hK, rfl, aK⟩
        have l4K := aK.all (t := toksOf arcs (endOf zs (List.replicate N 0)))
        have hrlK := hrl.mono (l4.trans' l4K)
        have hlast := hrow zs.length (Nat.le_refl _)
        rw [Int.toNat_natCast, List.take_length] at hlast
        have h00 : zs.length < rows.length := by omega
        obtain ⟨g5, hg5⟩ := hrl.outer.ad (by omega)
        have hln := hlens zs.length h00
        conv => whnf
        refine br_dec (fun _ => ?_) (fun q => absurd (by show ((zs.length : Nat) : Int) = r; omega) q)
        conv => whnf
        refine .ok (by omega) (by omega) ?_
        conv => whnf
        refine .mk g5 hg5 (by omega) (by omega) ?_
        conv => whnf
        refine .hp (.slice (some (J zs.length).1) (rows.getD zs.length []).length (J zs.length).2) (by rw [show ((rows.length : Int) - 1).toNat = zs.length by omega]; exact hrlK.outer.one hg5 (map_range h00) rfl) ?_
        rw [hln]
        conv => whnf
        refine .mk _ (counts27 hs aK) (fun _ _ q => by obtain ⟨_, _, _, q, _⟩ := q; exact q) ?_
        rintro _ h10 ⟨g10, c10, rfl, l10, r10, f10⟩
        have hrlE := hrlK.mono l10
        have hinE := hrlE.inner zs.length h00
        rw [hln, hlast] at hinE
        conv => whnf
        refine .mk _ (same21 _ _ _ _ _ _ _ _ _ r10.one hinE (by omega)) (fun _ _ q => by rw [q.2]; exact Hp.le_refl _) ?_
        rintro _ _ ⟨rfl, rfl⟩
        rw [decide_eq_true rfl]
        conv => whnf
        exact .done ⟨rfl, ll3.trans' (l4.trans' (l4K.trans' l10))⟩
    · obtain rfl := b3 he
      have hle := fun hl => (alongR_err (N := N) (arcs := arcs) zs (List.replicate N 0) hl)
      have hcase : (2048 < zs.length ∧ (along N arcs zs).1 = 2) ∨ (¬ 2048 < zs.length ∧ (along N arcs zs).1 ≠ 2 ∧ (fireRun N arcs zs (List.replicate N 0)).1 < zs.length) := by
        by_cases hl : 2048 < zs.length
        · left; rw [along_long hs hl]; exact ⟨hl, rfl⟩
        · right
          rw [along_ok hs hl] at he ⊢
          obtain ⟨e1, e2⟩ := hle he
          refine ⟨hl, ?_, e2⟩
          show (alongR N arcs zs (List.replicate N 0)).1 ≠ 2
          omega
      generalize (along N arcs zs).1 = ez at he hcase ⊢
      conv => whnf
      refine .done (.mk _ (lentNet10 N A arcs.length cap arcs h3 (ht.mono ll3) hn) ?_)
      rintro _ h4 ⟨l4, A4, c4, rfl, t4⟩
      conv => whnf
      refine .done (.mk _ (new16 N arcs.length c4 arcs A4 h4 t4.tab hn hs) ?_)
      rintro _ _ ⟨hF, b, gt, gf, rfl, hleF, web, rfl⟩
      have a0 : At h4 hF b gt gf N arcs (List.replicate N 0) 0 := ⟨hleF, web, good_zero hs⟩
      have hl6 : h4.le (st hF gt gf (toksOf arcs (List.replicate N 0)) (List.replicate N 0)) := a0.all
      have hh6 := ll3.trans' (l4.trans' hl6)
      conv => whnf
      refine br_dec (fun _ => ?_) (fun q => absurd he q)
      conv => whnf
      refine br_dec (fun hl => ?_) (fun hl => ?_)
      · obtain ⟨_, hz2, hfl⟩ := hcase.resolve_left (fun q => by omega)
        conv => whnf
        refine .done (.mk _ (ints24 D r cap2 zs _ (hz.mono hh6) hr) ?_)
        rintro _ h8 ⟨l8, D8, d8, rfl, q8, f8⟩
        conv => whnf
        refine .done (.mk _ (fireList hs a0 (by omega) l8 q8 f8) ?_)
        rintro _ _ ⟨rfl, hK, rfl, aK⟩
        have l4K := aK.all (t := toksOf arcs (fireRun N arcs zs (List.replicate N 0)).2)
        generalize (fireRun N arcs zs (List.replicate N 0)).1 = fr at hfl ⊢
        conv => whnf
        refine .done (.mk _ (awake16 _) ?_)
        rintro _ h9 ⟨rfl, l9⟩
        have hfin := ll3.trans' (l4.trans' (l4K.trans' l9))
        have e1 : decide ((2048 : Int) < r) = false := decide_eq_false (by omega)
        have e2 : decide (ez = 2) = false := decide_eq_false hz2
        conv => whnf
        rw [e1]
        have e3 : flip false (false == decide (ez = 2)) = true := by rw [e2]; rfl
        rw [e3]
        conv => whnf
        refine br_dec (fun q => absurd q hz2) (fun _ => ?_)
        conv => whnf
        refine .done ⟨?_, hfin⟩
        have : decide ((fr : Int) < r) = true := decide_eq_true (by omega)
        show Value.bool (decide ((fr : Int) < r)) = _
        rw [this]
      · obtain ⟨hl2, rfl⟩ := hcase.resolve_right (fun q => by omega)
        conv => whnf
        refine .done (.mk _ (awake16 _) ?_)
        rintro _ h9 ⟨rfl, l9⟩
        have hfin := hh6.trans' l9
        have e1 : decide ((2048 : Int) < r) = true := decide_eq_true (by omega)
        conv => whnf
        rw [e1]
        conv => whnf
        exact .done ⟨rfl, hfin⟩
  · have he : (along N arcs zs).1 ≠ 0 := by rw [along_bad hs]; exact hs
    obtain rfl := b3 he
    rw [along_bad hs]
    conv => whnf
    refine .done (.mk _ (lentNet10 N A arcs.length cap arcs h3 (ht.mono ll3) hn) ?_)
    rintro _ h4 ⟨l4, A4, c4, rfl, t4⟩
    conv => whnf
    refine .done (.mk _ (new16_bad N arcs.length c4 arcs A4 h4 t4.tab hn hs) ?_)
    rintro _ h5 ⟨rfl, rfl⟩
    conv => whnf
    refine br_dec (fun _ => ?_) (fun q => absurd hs q)
    conv => whnf
    refine br_dec (fun q => absurd q hs) (fun _ => ?_)
    conv => whnf
    refine .done (.mk _ (awake16 _) ?_)
    rintro _ h6 ⟨rfl, l6⟩
    conv => whnf
    refine br_dec (fun _ => ?_) (fun q => absurd hs q)
    conv => whnf
    refine br_dec (fun _ => ?_) (fun q => absurd rfl q)
    conv => whnf
    exact .done ⟨rfl, ll3.trans' (l4.trans' l6)⟩
end Go.Sx
