/- PackTight: the law's own function answers true. Conditions: none. -/
import Derived.Test.YthibgmkobcbhhaaLT3
import Derived.Test.YthibgmkobcbhhaaLT4
import Derived.Test.YthibgmkobcbhhaaM19W
namespace Go.Sx
open Go.Proofs Go.Sort
set_option maxRecDepth 100000
/-- what the law's loops read -/
structure SeenT (h : Hp) (m T : Nat) (E : Option Addr) (regs : List Pr) (C : Option Addr) (ps : List Pr) (F : Option Addr) (pk : List Int) : Prop where
  reg : Tab h 2 E m (regs.map pc)
  cl : Tab h 2 C ps.length (ps.map pc)
  pkt : Tab h 1 F m (pk.map fun z => [iv z])
  small : m ≤ 96
  rl : regs.length = m
  pl : pk.length = m
  psz : ps.length ≤ 9216
  pin : ∀ p ∈ ps, 0 ≤ p.1 ∧ p.1 < p.2 ∧ p.2 < m
  rin : ∀ i, i < m → 0 ≤ (regAt regs i).1 ∧ 0 ≤ (regAt regs i).2 ∧ (regAt regs i).1 + (regAt regs i).2 ≤ T
  tle : T ≤ 1024
  size : ∀ i, i < m → (regAt regs i).2 = pkAt pk i
  tight : ∀ i, i < m → tightR regs i (regAt regs i).1 ps = true
namespace SeenT
variable {h : Hp} {m T : Nat} {E : Option Addr} {regs : List Pr} {C : Option Addr} {ps : List Pr} {F : Option Addr} {pk : List Int}
theorem regRow (s : SeenT h m T E regs C ps F pk) {g : Addr} (hg : E = some g) {i : Nat} (hi : i < m) : ∀ j v, (pc (regAt regs i))[j]? = some v → h.cell? ((g.add ((i : Int).toNat * 2)).add j) = some v := fun j v hv => by
  rw [Int.toNat_natCast]
  refine s.reg.row hg (i := i) ?_ j v hv
  have := s.rl
  rw [List.getElem?_map, List.getElem?_eq_getElem (by omega)]
  unfold regAt
  rw [List.getD_eq_getElem?_getD, List.getElem?_eq_getElem (by omega)]
  rfl
theorem clRow (s : SeenT h m T E regs C ps F pk) {g : Addr} (hg : C = some g) {k : Nat} (hk : k < ps.length) : ∀ j v, (pc ps[k])[j]? = some v → h.cell? ((g.add ((k : Int).toNat * 2)).add j) = some v := fun j v hv => by
  rw [Int.toNat_natCast]
  refine s.cl.row hg (i := k) ?_ j v hv
  rw [List.getElem?_map, List.getElem?_eq_getElem hk]; rfl
theorem pkRow (s : SeenT h m T E regs C ps F pk) {g : Addr} (hg : F = some g) {i : Nat} (hi : i < m) : h.cell? (g.add ((i : Int).toNat * 1)) = some (iv (pkAt pk i)) := by
  have := s.pl
  rw [Int.toNat_natCast]
  refine s.pkt.one hg (r := [iv (pkAt pk i)]) ?_ rfl
  unfold pkAt
  rw [List.getElem?_map, List.getD_eq_getElem?_getD, List.getElem?_eq_getElem (by omega)]
  rfl
end SeenT
theorem loopT2 (Q : Post) (e : Env) (L : List LE) (N : Int) (A E C F : Option Addr) (n cap m T c cC cF i : Nat) (gr sm : Int) (lv : Int) (ce : Int) (regs ps : List Pr) (pk : List Int) (h' : Hp) (s : SeenT h' m T E regs C ps F pk) (hi : i < m)
    (heE : [5, 7, 9, 11, 12, 13, 14, 15, 16, 17, 18].map e = [.p 1 0, .v (.slice C ps.length cC), .v (.slice F m cF), .v (iv gr), .v (iv sm), .v (iv lv), .v (iv ce), .v (iv i), .p 2 0, .v (.bool (tightR regs i (regAt regs i).1 [])), .v (iv (0 : Nat))])
    (hL : L.take 3 = Ls3 N A n cap E m c T (regAt regs i))
    (hQ : ∀ e, [5, 7, 9, 11, 12, 13, 14, 15, 16, 17].map e = [.p 1 0, .v (.slice C ps.length cC), .v (.slice F m cF), .v (iv gr), .v (iv sm), .v (iv lv), .v (iv ce), .v (iv i), .p 2 0, .v (.bool true)] → Q (.exit 2) e (Ls3 N A n cap E m c T (regAt regs i)) h') :
    EvLoop (fun Q e L h => wpIR Try.prog 235 ir5_l2 Q e L h) Q e L h' := by
  refine .mk Nat [5, 7, 9, 11, 12, 13, 14, 15, 16, 17, 18] (fun k => [.p 1 0, .v (.slice C ps.length cC), .v (.slice F m cF), .v (iv gr), .v (iv sm), .v (iv lv), .v (iv ce), .v (iv i), .p 2 0, .v (.bool (tightR regs i (regAt regs i).1 (ps.take k))), .v (iv k)])
    (fun _ => Ls3 N A n cap E m c T (regAt regs i)) (fun k h'' => h'' = h' ∧ k ≤ ps.length) (fun k => ps.length - k) 0 (fun _ => rfl) ⟨rfl, Nat.zero_le _⟩ heE hL ?_
  rintro k e2 h'' ⟨rfl, hk⟩
  have hps := s.psz
  have hms := s.small
  conv => whnf
  refine br_dec (fun u => ?_) (fun u => ?_)
  · have hk' : k < ps.length := by omega
    obtain ⟨g, hg⟩ := s.cl.ad (by omega)
    obtain ⟨g3, hg3⟩ := s.reg.ad (by omega)
    have ldC := s.clRow hg hk'
    obtain ⟨x0, x1, x2⟩ := s.pin _ (List.getElem_mem hk')
    have htk : tightR regs i (regAt regs i).1 (ps.take (k + 1)) = (tightR regs i (regAt regs i).1 (ps.take k) || hitB regs i (regAt regs i).1 ps[k]) := by rw [take_succ' hk', tightR_snoc]
    generalize ps[k] = x at ldC x0 x1 x2 htk
    obtain ⟨a, b⟩ := x
    obtain ⟨a, rfl⟩ := Int.eq_ofNat_of_zero_le x0
    obtain ⟨b, rfl⟩ := Int.eq_ofNat_of_zero_le (show 0 ≤ b by simp only at x1 x2; omega)
    have x1 : a < b := by simp only at x1; omega
    have x2 : b < m := by simp only at x2; omega
    have ld0 : h''.cell? ((g.add ((k : Int).toNat * 2)).add 0) = some (iv (a : Int)) := ldC 0 _ rfl
    have ld1 : h''.cell? ((g.add ((k : Int).toNat * 2)).add 1) = some (iv (b : Int)) := ldC 1 _ rfl
    have ldA0 : h''.cell? ((g3.add ((a : Int).toNat * 2)).add 0) = some (iv (regAt regs a).1) := s.regRow hg3 (by omega) 0 _ rfl
    have ldA1 : h''.cell? ((g3.add ((a : Int).toNat * 2)).add 1) = some (iv (regAt regs a).2) := s.regRow hg3 (by omega) 1 _ rfl
    have ldB0 : h''.cell? ((g3.add ((b : Int).toNat * 2)).add 0) = some (iv (regAt regs b).1) := s.regRow hg3 x2 0 _ rfl
    have ldB1 : h''.cell? ((g3.add ((b : Int).toNat * 2)).add 1) = some (iv (regAt regs b).2) := s.regRow hg3 x2 1 _ rfl
    obtain ⟨a0, a1, a2⟩ := s.rin a (by omega)
    obtain ⟨b0, b1, b2⟩ := s.rin b x2
    have hT := s.tle
    have hhit : hitB regs i (regAt regs i).1 ((a : Int), (b : Int)) = ((decide ((a : Int) = i) && decide ((regAt regs b).1 + (regAt regs b).2 = (regAt regs i).1)) || (decide ((b : Int) = i) && decide ((regAt regs a).1 + (regAt regs a).2 = (regAt regs i).1))) := rfl
    rw [hhit] at htk
    clear hhit
    generalize regAt regs a = xa at ldA0 ldA1 a0 a1 a2 htk
    generalize regAt regs b = xb at ldB0 ldB1 b0 b1 b2 htk
    conv => whnf
    refine .mk g hg (by omega) (by omega) ?_
    conv => whnf
    refine .hp _ ld0 ?_
    conv => whnf
    refine br_dec (fun u1 => ?_) (fun u1 => ?_)
    · rw [decide_eq_true u1, Bool.true_and, decide_eq_false (show ¬ ((b : Int) = i) by omega), Bool.false_and, Bool.or_false] at htk
      conv => whnf
      refine .mk g hg (by omega) (by omega) ?_
      conv => whnf
      refine .hp _ ld1 ?_
      conv => whnf
      refine .mk g3 hg3 (by omega) (by omega) ?_
      conv => whnf
      refine .hp _ ldB0 ?_
      conv => whnf
      refine .mk g hg (by omega) (by omega) ?_
      conv => whnf
      refine .hp _ ld1 ?_
      conv => whnf
      refine .mk g3 hg3 (by omega) (by omega) ?_
      conv => whnf
      refine .hp _ ldB1 ?_
      conv => whnf
      refine .ok (by omega) (by omega) ?_
      conv => whnf
      refine br_dec (fun u2 => ?_) (fun u2 => ?_)
      · rw [decide_eq_true u2, Bool.or_true] at htk
        conv => whnf
        refine .ok (by omega) (by omega) ?_
        conv => whnf
        exact ⟨k + 1, by rw [htk]; rfl, rfl, ⟨rfl, hk'⟩, by omega⟩
      · rw [decide_eq_false u2, Bool.or_false] at htk
        conv => whnf
        refine .mk g hg (by omega) (by omega) ?_
        conv => whnf
        refine .hp _ ld1 ?_
        conv => whnf
        refine br_dec (fun w => absurd w (by omega)) (fun _ => ?_)
        conv => whnf
        refine .ok (by omega) (by omega) ?_
        conv => whnf
        exact ⟨k + 1, by rw [htk]; rfl, rfl, ⟨rfl, hk'⟩, by omega⟩
    · rw [decide_eq_false u1, Bool.false_and, Bool.false_or] at htk
      conv => whnf
      refine .mk g hg (by omega) (by omega) ?_
      conv => whnf
      refine .hp _ ld1 ?_
      conv => whnf
      refine br_dec (fun u2 => ?_) (fun u2 => ?_)
      · rw [decide_eq_true u2, Bool.true_and] at htk
        conv => whnf
        refine .mk g hg (by omega) (by omega) ?_
        conv => whnf
        refine .hp _ ld0 ?_
        conv => whnf
        refine .mk g3 hg3 (by omega) (by omega) ?_
        conv => whnf
        refine .hp _ ldA0 ?_
        conv => whnf
        refine .mk g hg (by omega) (by omega) ?_
        conv => whnf
        refine .hp _ ld0 ?_
        conv => whnf
        refine .mk g3 hg3 (by omega) (by omega) ?_
        conv => whnf
        refine .hp _ ldA1 ?_
        conv => whnf
        refine .ok (by omega) (by omega) ?_
        conv => whnf
        refine br_dec (fun u3 => ?_) (fun u3 => ?_)
        · rw [decide_eq_true u3, Bool.or_true] at htk
          conv => whnf
          refine .ok (by omega) (by omega) ?_
          conv => whnf
          exact ⟨k + 1, by rw [htk]; rfl, rfl, ⟨rfl, hk'⟩, by omega⟩
        · rw [decide_eq_false u3, Bool.or_false] at htk
          conv => whnf
          refine .ok (by omega) (by omega) ?_
          conv => whnf
          exact ⟨k + 1, by rw [htk]; rfl, rfl, ⟨rfl, hk'⟩, by omega⟩
      · rw [decide_eq_false u2, Bool.false_and, Bool.or_false] at htk
        conv => whnf
        refine .ok (by omega) (by omega) ?_
        conv => whnf
        exact ⟨k + 1, by rw [htk]; rfl, rfl, ⟨rfl, hk'⟩, by omega⟩
  · have hk' : k = ps.length := by omega
    subst hk'
    rw [List.take_length, s.tight i hi]
    conv => whnf
    exact hQ _ rfl
theorem loopT1 (Q : Post) (e : Env) (L : List LE) (N : Int) (A E C F : Option Addr) (n cap m T c cC cF : Nat) (regs ps : List Pr) (pk : List Int) (h' : Hp) (s : SeenT h' m T E regs C ps F pk)
    (heE : [5, 7, 9, 11, 12, 13, 14, 15].map e = [.p 1 0, .v (.slice C ps.length cC), .v (.slice F m cF), .v (iv 0), .v (iv 0), .v (iv 0), .v (iv 0), .v (iv (0 : Nat))])
    (hL : L.take 2 = Ls2 N A n cap E m c T)
    (hQ : ∀ e, [5, 7, 9, 11, 12, 13, 14].map e = [.p 1 0, .v (.slice C ps.length cC), .v (.slice F m cF), .v (iv (greatR pk)), .v (iv pk.sum), .v (iv (liveR pk)), .v (iv (totalR regs))] → Q (.exit 0) e (Ls2 N A n cap E m c T) h') :
    EvLoop (fun Q e L h => wpIR Try.prog 235 ir5_l1 Q e L h) Q e L h' := by
  refine .mk Nat [5, 7, 9, 11, 12, 13, 14, 15] (fun i => [.p 1 0, .v (.slice C ps.length cC), .v (.slice F m cF), .v (iv (greatR (pk.take i))), .v (iv (pk.take i).sum), .v (iv (liveR (pk.take i))), .v (iv (totalR (regs.take i))), .v (iv i)])
    (fun _ => Ls2 N A n cap E m c T) (fun i h'' => h'' = h' ∧ i ≤ m ∧ 0 ≤ (pk.take i).sum ∧ (pk.take i).sum ≤ 1024 * i) (fun i => m - i) 0 (fun _ => rfl) ⟨rfl, Nat.zero_le _, by simp, by simp⟩ heE hL ?_
  rintro i e2 h'' ⟨rfl, hi, s0, s1⟩
  have hms := s.small
  conv => whnf
  refine br_dec (fun u => ?_) (fun u => ?_)
  · have hi' : i < m := by omega
    obtain ⟨g3, hg3⟩ := s.reg.ad (by omega)
    obtain ⟨gF, hgF⟩ := s.pkt.ad (by omega)
    have ldR := s.regRow hg3 hi'
    have ldP := s.pkRow hgF hi'
    obtain ⟨r0, r1, r2⟩ := s.rin i hi'
    have hsz := s.size i hi'
    have hT := s.tle
    have hpl := s.pl
    have hrl := s.rl
    have tp : pk.take (i + 1) = pk.take i ++ [pkAt pk i] := by
      rw [take_succ' (by omega)]
      unfold pkAt
      rw [List.getD_eq_getElem?_getD, List.getElem?_eq_getElem (by omega)]
      rfl
    have tr : regs.take (i + 1) = regs.take i ++ [regAt regs i] := by
      rw [take_succ' (by omega)]
      unfold regAt
      rw [List.getD_eq_getElem?_getD, List.getElem?_eq_getElem (by omega)]
      rfl
    have hb : totalR (regs.take i) ≤ 1024 := by
      refine total_le.2 ⟨by omega, fun x hx => ?_⟩
      obtain ⟨j, hj, rfl⟩ := List.getElem_of_mem (List.mem_of_mem_take hx)
      have := s.rin j (by omega)
      unfold regAt at this
      rw [List.getD_eq_getElem?_getD, List.getElem?_eq_getElem hj] at this
      have h2 : 0 ≤ regs[j].1 ∧ 0 ≤ regs[j].2 ∧ regs[j].1 + regs[j].2 ≤ T := this
      omega
    have e1 : greatR (pk.take (i + 1)) = max (greatR (pk.take i)) (pkAt pk i) := by rw [tp, greatR_snoc]
    have e2 : (pk.take (i + 1)).sum = (pk.take i).sum + pkAt pk i := by rw [tp]; simp
    have e3 : liveR (pk.take (i + 1)) = liveR (pk.take i) + if 0 < pkAt pk i then 1 else 0 := by rw [tp, liveR_snoc]
    have e4 : totalR (regs.take (i + 1)) = max (totalR (regs.take i)) ((regAt regs i).1 + (regAt regs i).2) := by rw [tr, totalR_snoc]
    have lvb := liveR_le (pk.take i)
    have lvc : (pk.take i).length ≤ i := List.length_take_le ..
    generalize greatR (pk.take i) = gr at e1 ⊢
    generalize (pk.take i).sum = sm at e2 s0 s1 ⊢
    generalize liveR (pk.take i) = lv at e3 lvb ⊢
    generalize totalR (regs.take i) = ce at e4 ⊢
    conv => whnf
    refine .mk g3 hg3 (by omega) (by omega) ?_
    conv => whnf
    refine .hp (pc (regAt regs i)) rfl ldR ?_
    conv => whnf
    refine .mk gF hgF (by omega) (by omega) ?_
    conv => whnf
    refine .hp _ ldP ?_
    conv => whnf
    refine .mk gF hgF (by omega) (by omega) ?_
    conv => whnf
    refine .hp _ ldP ?_
    conv => whnf
    refine .ok (by omega) (by omega) ?_
    conv => whnf
    refine .ok (by omega) (by omega) ?_
    conv => whnf
    refine .mk gF hgF (by omega) (by omega) ?_
    conv => whnf
    refine .hp _ ldP ?_
    conv => whnf
    refine br_dec (fun u1 => ?_) (fun u1 => ?_)
    · rw [if_pos u1] at e3
      conv => whnf
      refine .ok (by omega) (by omega) ?_
      conv => whnf
      refine loopT2 _ _ _ N A E C F n cap m T c cC cF i (max gr (pkAt pk i)) (sm + pkAt pk i) ((lv : Int) + 1) (max ce ((regAt regs i).1 + (regAt regs i).2)) regs ps pk h'' s hi' (by rw [show tightR regs i (regAt regs i).1 [] = decide ((regAt regs i).1 = 0) from Bool.or_false _]; rfl) rfl (fun e5 he5 => ?_)
      have hself := updL_self [5, 7, 9, 11, 12, 13, 14, 15, 16, 17] e5
      rw [he5] at hself
      rw [← hself]
      conv => whnf
      refine .mk gF hgF (by omega) (by omega) ?_
      conv => whnf
      refine .hp _ ldP ?_
      conv => whnf
      refine br_dec (fun w => absurd w (by omega)) (fun _ => ?_)
      conv => whnf
      refine .ok (by omega) (by omega) ?_
      conv => whnf
      refine ⟨i + 1, ?_, rfl, ⟨rfl, hi', by omega, by omega⟩, by omega⟩
      rw [e1, e2, e3, e4]
      rfl
    · rw [if_neg u1, Nat.add_zero] at e3
      conv => whnf
      refine loopT2 _ _ _ N A E C F n cap m T c cC cF i (max gr (pkAt pk i)) (sm + pkAt pk i) (lv : Int) (max ce ((regAt regs i).1 + (regAt regs i).2)) regs ps pk h'' s hi' (by rw [show tightR regs i (regAt regs i).1 [] = decide ((regAt regs i).1 = 0) from Bool.or_false _]; rfl) rfl (fun e5 he5 => ?_)
      have hself := updL_self [5, 7, 9, 11, 12, 13, 14, 15, 16, 17] e5
      rw [he5] at hself
      rw [← hself]
      conv => whnf
      refine .mk gF hgF (by omega) (by omega) ?_
      conv => whnf
      refine .hp _ ldP ?_
      conv => whnf
      refine br_dec (fun w => absurd w (by omega)) (fun _ => ?_)
      conv => whnf
      refine .ok (by omega) (by omega) ?_
      conv => whnf
      refine ⟨i + 1, ?_, rfl, ⟨rfl, hi', by omega, by omega⟩, by omega⟩
      rw [e1, e2, e3, e4]
      rfl
  · obtain rfl : i = m := by omega
    have hpl := s.pl
    have hrl := s.rl
    rw [List.take_of_length_le (show pk.length ≤ i by omega), List.take_of_length_le (show regs.length ≤ i by omega)]
    conv => whnf
    exact hQ _ rfl
theorem lawT5 (N : Int) (A D : Option Addr) (n r cap cap2 : Nat) (arcs : List Arc) (zs : List Int) (h : Hp) (ht : Tab h 5 A n (arcs.map Arc.cells)) (hz : Tab h 1 D r (zs.map fun z => [iv z]))
    (hn : n * 40 ≤ 140737488355328) (hr : r * 8 ≤ 140737488355328) :
    Fn Try.prog 5 #[netV N A n cap, .slice D r cap2] h fun v h' => v = .bool true ∧ h.le h' := by
  have hal : arcs.length = n := by simpa using ht.len
  subst hal
  refine Fn.intro (args := [netV N A arcs.length cap, .slice D r cap2]) mix14 Try.func5 rfl (by decide) Try.ntmps5 rfl (low5 rfl) rfl ?_
  conv => whnf
  refine .done (.mk _ (lentNet10 N A arcs.length cap arcs h ht hn) ?_)
  rintro _ h1 ⟨l1, A1, c1, rfl, t1⟩
  conv => whnf
  refine .done (.mk _ (ints24 D r cap2 zs h1 (hz.mono l1) hr) ?_)
  rintro _ h2 ⟨l2, D2, c2, rfl, t2, _⟩
  conv => whnf
  refine .done (.mk _ (place17 N arcs.length c1 arcs A1 D2 r c2 zs h2 (t1.mono l2).tab hn t2.one (fun _ => True) fun he => stab_all _ (by have := (chk_zero (along_chk (lookE_zero he).1)).2.2.1; omega) _) ?_)
  rintro _ h3 ⟨l3, hb3, hg3⟩
  have l03 := Hp.le_trans l1 (Hp.le_trans l2 l3)
  by_cases he : lookE N arcs zs = 0
  · obtain ⟨hal, hhm⟩ := lookE_zero he
    obtain ⟨os, regs, plc, hperm, _, run, hbig, hsm⟩ := hg3 he
    by_cases hT : totalR regs ≤ 1024
    · obtain ⟨EA, rfl, tE⟩ := hsm hT
      conv => whnf
      refine .done (.mk _ (lentNet10 N A arcs.length cap arcs h3 (ht.mono l03) hn) ?_)
      rintro _ h4 ⟨l4, A4, c4, rfl, t4⟩
      conv => whnf
      refine .done (.mk _ (ints24 D r cap2 zs h4 (hz.mono (Hp.le_trans l03 l4)) hr) ?_)
      rintro _ h5 ⟨l5, D5, c5, rfl, t5, _⟩
      conv => whnf
      refine .done (.mk _ (clash11 N arcs.length c4 arcs A4 D5 r c5 zs h5 (t4.mono l5).tab hn t5.one) ?_)
      rintro _ h6 ⟨l6, hb6, hg6⟩
      have l36 := Hp.le_trans l4 (Hp.le_trans l5 l6)
      have l06 := Hp.le_trans l03 l36
      obtain ⟨C, cC, rfl, roC, _⟩ := hg6 hal
      conv => whnf
      refine .done (.mk _ (lentNet10 N A arcs.length cap arcs h6 (ht.mono l06) hn) ?_)
      rintro _ h7 ⟨l7, A7, c7, rfl, t7⟩
      conv => whnf
      refine .done (.mk _ (ints24 D r cap2 zs h7 (hz.mono (Hp.le_trans l06 l7)) hr) ?_)
      rintro _ h8 ⟨l8, D8, c8, rfl, t8, _⟩
      conv => whnf
      refine .done (.mk _ (most19 N arcs.length c7 arcs A7 D8 r c8 zs h8 (t7.mono l8).tab hn t8.one) ?_)
      rintro _ h9 ⟨l9, hb9, hg9⟩
      have l69 := Hp.le_trans l7 (Hp.le_trans l8 l9)
      have l09 := Hp.le_trans l06 l69
      obtain ⟨_, X, rfl, hmo, hX, _⟩ := hg9 hal
      obtain ⟨gF, cF, rfl, roF⟩ := hmo.2 (along_ne hal)
      have hpk : ∀ i, 0 ≤ pkAt (maxes (along N arcs zs).2) i := fun i => by
        by_cases hi : i < arcs.length
        · exact ((look_peaks hal).2 i hi).1
        · unfold pkAt
          rw [List.getD_eq_getElem?_getD, List.getElem?_eq_none (by rw [(look_peaks hal).1.len]; omega)]
          exact Int.le_refl _
      have fin := run_fin run hpk hperm
      obtain ⟨T, hTT⟩ : ∃ T : Nat, totalR regs = T := ⟨(totalR regs).toNat, by have := total_pos regs; omega⟩
      have hpl := (look_peaks hal).1.len
      have f1 := fin_great fin hpl
      have f2 := fin_sum fin hpk hpl
      have f3 := fin_none fin hpl
      have f4 := fin_all fin hpk hpl fun i hi r hr => (look_peaks hal).1.up i hi r hr
      have hm := (chk_zero (along_chk hal)).2.2.1
      have seen : SeenT h9 arcs.length T (some EA) regs C (pairsR (along N arcs zs).2 arcs.length) (some gF) (maxes (along N arcs zs).2) := by
        refine ⟨tE.mono (Hp.le_trans l36 l69), (roC.mono l69).tab2, (roF.mono hX).one, hm, fin.len, hpl, ?_, fun p hp => ?_, fun i hi => ?_, by omega, fin.size, fun i hi => fin_tight fin hi⟩
        · have := clR_len N arcs zs
          unfold clR at this
          rwa [if_pos hal] at this
        · obtain ⟨i, j, rfl, a, b, _⟩ := pairs_mem.1 hp
          exact ⟨by show (0 : Int) ≤ (i : Int); omega, by show (i : Int) < (j : Int); omega, by show (j : Int) < _; omega⟩
        · have h1 := fin.base i hi
          have h2 := fin.size i hi
          have h3 := fin_total fin hi
          have h4 := hpk i
          exact ⟨h1, by omega, by omega⟩
      rw [hTT] at hT f1 f2 f3 f4 ⊢
      clear fin run hbig hsm hg3 hb3 hg6 hg9 hb6 hb9 hperm roC roF hmo hpk
      generalize pairsR (along N arcs zs).2 arcs.length = ps at seen f3 f4 ⊢
      generalize maxes (along N arcs zs).2 = pk at seen hpl f1 f2 f3 f4 ⊢
      conv => whnf
      refine br_dec (fun q => absurd rfl q) (fun _ => ?_)
      conv => whnf
      refine loopT1 _ _ _ N A (some EA) C (some gF) arcs.length cap arcs.length T arcs.length cC cF regs ps pk h9 seen rfl rfl (fun e3 he3 => ?_)
      have hself := updL_self [5, 7, 9, 11, 12, 13, 14] e3
      rw [he3, hTT] at hself
      rw [← hself]
      have hlv : liveR pk ≤ 96 := by have := liveR_le pk; omega
      obtain ⟨q, hq⟩ : ∃ q : Nat, liveR pk * (liveR pk - 1) = 2 * q := ⟨_, by rw [arcP_len (List.range (liveR pk)), List.length_range]⟩
      have hq2 : (liveR pk : Int) * ((liveR pk : Int) - 1) = 2 * (q : Int) := by
        cases hl : liveR pk with
        | zero => rw [hl] at hq; obtain rfl : q = 0 := by omega
                  rfl
        | succ j => rw [hl] at hq; rw [show ((j + 1 : Nat) : Int) - 1 = ((j + 1 - 1 : Nat) : Int) by omega, ← Int.natCast_mul, hq]; rfl
      have hq3 : q ≤ 4608 := by
        have := Nat.mul_le_mul hlv (show liveR pk - 1 ≤ 96 by omega)
        omega
      have hq3' : ((liveR pk : Int) * ((liveR pk : Int) - 1)).tdiv 2 = q := by rw [hq2]; exact Int.mul_tdiv_cancel_left _ (by decide)
      rw [hq] at f4
      generalize greatR pk = gr at f1 f3 ⊢
      generalize pk.sum = sm at f2 f4 ⊢
      generalize liveR pk = lv at hlv hq2 hq3' ⊢
      conv => whnf
      refine br_dec (fun q => absurd rfl q) (fun _ => ?_)
      conv => whnf
      refine br_dec (fun w => absurd w (by omega)) (fun _ => ?_)
      conv => whnf
      refine br_dec (fun w => absurd w (by omega)) (fun _ => ?_)
      conv => whnf
      refine br_dec (fun w => ?_) (fun w => ?_)
      · have hgr := f3 (List.eq_nil_of_length_eq_zero (by omega))
        conv => whnf
        refine br_dec (fun q => absurd hgr q) (fun _ => ?_)
        conv => whnf
        refine .done (.mk _ (awake14 _) ?_)
        rintro _ h10 ⟨rfl, l10⟩
        conv => whnf
        refine .ok (by omega) (by omega) ?_
        conv => whnf
        refine .ok (by omega) (by omega) ?_
        conv => whnf
        refine .mk (by decide) (.ok (by rw [hq3'] <;> omega) (by rw [hq3'] <;> omega) ?_)
        conv => whnf
        refine br_dec (fun w2 => ?_) (fun w2 => ?_)
        · conv => whnf
          exact .done ⟨rfl, Hp.le_trans l09 l10⟩
        · rw [hq3'] at w2
          have hT2 : (T : Int) = sm := f4 (by omega)
          conv => whnf
          refine .done ⟨?_, Hp.le_trans l09 l10⟩
          show Value.bool (decide ((T : Int) = sm)) = _
          rw [decide_eq_true hT2]
      · skip
        conv => whnf
        refine .done (.mk _ (awake14 _) ?_)
        rintro _ h10 ⟨rfl, l10⟩
        conv => whnf
        refine .ok (by omega) (by omega) ?_
        conv => whnf
        refine .ok (by omega) (by omega) ?_
        conv => whnf
        refine .mk (by decide) (.ok (by rw [hq3'] <;> omega) (by rw [hq3'] <;> omega) ?_)
        conv => whnf
        refine br_dec (fun w2 => ?_) (fun w2 => ?_)
        · conv => whnf
          exact .done ⟨rfl, Hp.le_trans l09 l10⟩
        · rw [hq3'] at w2
          have hT2 : (T : Int) = sm := f4 (by omega)
          conv => whnf
          refine .done ⟨?_, Hp.le_trans l09 l10⟩
          show Value.bool (decide ((T : Int) = sm)) = _
          rw [decide_eq_true hT2]
    · obtain rfl := hbig (by omega)
      conv => whnf
      refine .done (.mk _ (lentNet10 N A arcs.length cap arcs h3 (ht.mono l03) hn) ?_)
      rintro _ h4 ⟨l4, A4, c4, rfl, t4⟩
      conv => whnf
      refine .done (.mk _ (ints24 D r cap2 zs h4 (hz.mono (Hp.le_trans l03 l4)) hr) ?_)
      rintro _ h5 ⟨l5, D5, c5, rfl, t5, _⟩
      conv => whnf
      refine .done (.mk _ (clash11 N arcs.length c4 arcs A4 D5 r c5 zs h5 (t4.mono l5).tab hn t5.one) ?_)
      rintro _ h6 ⟨l6, hb6, hg6⟩
      have l36 := Hp.le_trans l4 (Hp.le_trans l5 l6)
      have l06 := Hp.le_trans l03 l36
      obtain ⟨C, cC, rfl, roC, _⟩ := hg6 hal
      conv => whnf
      refine .done (.mk _ (lentNet10 N A arcs.length cap arcs h6 (ht.mono l06) hn) ?_)
      rintro _ h7 ⟨l7, A7, c7, rfl, t7⟩
      conv => whnf
      refine .done (.mk _ (ints24 D r cap2 zs h7 (hz.mono (Hp.le_trans l06 l7)) hr) ?_)
      rintro _ h8 ⟨l8, D8, c8, rfl, t8, _⟩
      conv => whnf
      refine .done (.mk _ (most19 N arcs.length c7 arcs A7 D8 r c8 zs h8 (t7.mono l8).tab hn t8.one) ?_)
      rintro _ h9 ⟨l9, hb9, hg9⟩
      have l69 := Hp.le_trans l7 (Hp.le_trans l8 l9)
      have l09 := Hp.le_trans l06 l69
      obtain ⟨_, X, rfl, hmo, hX, _⟩ := hg9 hal
      obtain ⟨gF, cF, rfl, roF⟩ := hmo.2 (along_ne hal)
      conv => whnf
      refine .done (.mk _ (awake14 _) ?_)
      rintro _ h10 ⟨rfl, l10⟩
      conv => whnf
      exact .done ⟨rfl, Hp.le_trans l09 l10⟩
  · obtain rfl := hb3 he
    by_cases hal : (along N arcs zs).1 = 0
    · skip
      conv => whnf
      refine .done (.mk _ (lentNet10 N A arcs.length cap arcs h3 (ht.mono l03) hn) ?_)
      rintro _ h4 ⟨l4, A4, c4, rfl, t4⟩
      conv => whnf
      refine .done (.mk _ (ints24 D r cap2 zs h4 (hz.mono (Hp.le_trans l03 l4)) hr) ?_)
      rintro _ h5 ⟨l5, D5, c5, rfl, t5, _⟩
      conv => whnf
      refine .done (.mk _ (clash11 N arcs.length c4 arcs A4 D5 r c5 zs h5 (t4.mono l5).tab hn t5.one) ?_)
      rintro _ h6 ⟨l6, hb6, hg6⟩
      have l36 := Hp.le_trans l4 (Hp.le_trans l5 l6)
      have l06 := Hp.le_trans l03 l36
      obtain ⟨C, cC, rfl, roC, _⟩ := hg6 hal
      conv => whnf
      refine .done (.mk _ (lentNet10 N A arcs.length cap arcs h6 (ht.mono l06) hn) ?_)
      rintro _ h7 ⟨l7, A7, c7, rfl, t7⟩
      conv => whnf
      refine .done (.mk _ (ints24 D r cap2 zs h7 (hz.mono (Hp.le_trans l06 l7)) hr) ?_)
      rintro _ h8 ⟨l8, D8, c8, rfl, t8, _⟩
      conv => whnf
      refine .done (.mk _ (most19 N arcs.length c7 arcs A7 D8 r c8 zs h8 (t7.mono l8).tab hn t8.one) ?_)
      rintro _ h9 ⟨l9, hb9, hg9⟩
      have l69 := Hp.le_trans l7 (Hp.le_trans l8 l9)
      have l09 := Hp.le_trans l06 l69
      obtain ⟨_, X, rfl, hmo, hX, _⟩ := hg9 hal
      obtain ⟨gF, cF, rfl, roF⟩ := hmo.2 (along_ne hal)
      conv => whnf
      refine br_dec (fun _ => ?_) (fun q => absurd he q)
      conv => whnf
      refine .done (.mk _ (awake14 _) ?_)
      rintro _ h10 ⟨rfl, l10⟩
      conv => whnf
      exact .done ⟨rfl, Hp.le_trans l09 l10⟩
    · skip
      conv => whnf
      refine .done (.mk _ (lentNet10 N A arcs.length cap arcs h3 (ht.mono l03) hn) ?_)
      rintro _ h4 ⟨l4, A4, c4, rfl, t4⟩
      conv => whnf
      refine .done (.mk _ (ints24 D r cap2 zs h4 (hz.mono (Hp.le_trans l03 l4)) hr) ?_)
      rintro _ h5 ⟨l5, D5, c5, rfl, t5, _⟩
      conv => whnf
      refine .done (.mk _ (clash11 N arcs.length c4 arcs A4 D5 r c5 zs h5 (t4.mono l5).tab hn t5.one) ?_)
      rintro _ h6 ⟨l6, hb6, hg6⟩
      have l36 := Hp.le_trans l4 (Hp.le_trans l5 l6)
      have l06 := Hp.le_trans l03 l36
      obtain rfl := hb6 hal
      conv => whnf
      refine .done (.mk _ (lentNet10 N A arcs.length cap arcs h6 (ht.mono l06) hn) ?_)
      rintro _ h7 ⟨l7, A7, c7, rfl, t7⟩
      conv => whnf
      refine .done (.mk _ (ints24 D r cap2 zs h7 (hz.mono (Hp.le_trans l06 l7)) hr) ?_)
      rintro _ h8 ⟨l8, D8, c8, rfl, t8, _⟩
      conv => whnf
      refine .done (.mk _ (most19 N arcs.length c7 arcs A7 D8 r c8 zs h8 (t7.mono l8).tab hn t8.one) ?_)
      rintro _ h9 ⟨l9, hb9, hg9⟩
      have l69 := Hp.le_trans l7 (Hp.le_trans l8 l9)
      have l09 := Hp.le_trans l06 l69
      obtain rfl := hb9 hal
      conv => whnf
      refine br_dec (fun _ => ?_) (fun q => absurd he q)
      conv => whnf
      refine .done (.mk _ (awake14 _) ?_)
      rintro _ h10 ⟨rfl, l10⟩
      conv => whnf
      exact .done ⟨rfl, Hp.le_trans l09 l10⟩
end Go.Sx
