/- Layer 14: a net's state at its start. Conditions: none. -/
import Derived.Test.YtbgfmfgffooniaaS13
namespace Go.Sx
open Go.Proofs
def newL (w : List Value) (n N : Nat) (gT gF : Addr) (ts : List Int) : List LE :=
  [.own (w.map .v ++ [.v (.slice (some gT) n n), .v (.slice (some gF) N N)]) 57, .row 3 1 (some gT) n n (ts.map iv), .row 3 1 (some gF) N N (List.replicate N (iv 0))]
def newT (arcs : List Arc) (k : Nat) : List Int := (arcs.take k).map Arc.start ++ List.replicate (arcs.length - k) 0
theorem newT_zero (arcs : List Arc) : (newT arcs 0).map iv = List.replicate arcs.length (iv 0) := by simp [newT]
theorem newT_len (arcs : List Arc) (k : Nat) (hk : k ≤ arcs.length) : (newT arcs k).length = arcs.length := by simp [newT]; omega
theorem newT_step {arcs : List Arc} {k : Nat} (hk : k < arcs.length) : (newT arcs k).set k arcs[k].start = newT arcs (k + 1) := by
  unfold newT
  have h1 : ((arcs.take k).map Arc.start).length = k := by simp; omega
  rw [List.set_append_right _ _ (by omega), h1, Nat.sub_self, show arcs.length - k = (arcs.length - (k + 1)) + 1 by omega, List.replicate_succ, List.set_cons_zero, take_succ' hk, List.map_append, List.map_singleton, List.append_assoc]
  rfl
theorem newT_all (arcs : List Arc) (N : Nat) : newT arcs arcs.length = toksOf arcs (List.replicate N 0) := by
  have : ∀ i : Nat, (List.replicate N (0 : Int)).getD i 0 = 0 := fun i => by
    rw [List.getD_eq_getElem?_getD, List.getElem?_replicate]
    split <;> rfl
  simp only [newT, List.take_length, Nat.sub_self, List.replicate_zero, List.append_nil, toksOf]
  exact List.map_congr_left fun a _ => by unfold tokOf; rw [this, this]; omega
theorem st_of {h : Hp} {gt gf : Nat} {t f : List Int} (h1 : h gt = some (numCells t)) (h2 : h gf = some (numCells f)) : h = st ((h.del gt).del gf) gt gf t f := by
  funext j
  unfold st
  by_cases e2 : j = gf
  · subst e2; rw [Hp.put_same]; exact h2
  · rw [Hp.put_ne _ _ e2]
    by_cases e1 : j = gt
    · subst e1; rw [Hp.put_same]; exact h1
    · rw [Hp.put_ne _ _ e1, Hp.del_ne _ e2, Hp.del_ne _ e1]
theorem RowAt.full {h : Hp} {n : Nat} {g : Addr} {l : List Int} (x : RowAt h 3 1 (some g) n n (l.map iv)) : ∃ b, g = ⟨b, 0, none⟩ ∧ h b = some (numCells l) := by
  rcases x.2 with ⟨q, _⟩ | ⟨b, cur, q1, q2, _, _, q5, q6⟩
  · cases q
  · injection q1 with q1
    refine ⟨b, q1, ?_⟩
    have : cur.toList = l.map iv := by
      rw [← q6, List.take_of_length_le (by rw [Array.length_toList]; omega)]
    rw [q2, numCells, ← this]
/-- What New answers. -/
def NewAt (h : Hp) (N : Nat) (arcs : List Arc) (r : Value) (h' : Hp) : Prop :=
  ∃ hF b gt gf, r = .tuple #[ptr b, iv 0] ∧ h.le hF ∧ Web hF b gt gf N arcs ∧ h' = st hF gt gf (toksOf arcs (List.replicate N 0)) (List.replicate N 0)
theorem newEnd (e : Env) (h h1 : Hp) (N n : Nat) (arcs : List Arc) (Aa Ai Ao : Option Addr) (ca' ci co : Nat) (gT gF : Addr) (hn : arcs.length = n) (hle : h.le h1) (h5 : e 5 = .p 0 0)
    (hw : ∃ I O, Tab h1 5 Aa arcs.length (arcs.map Arc.cells) ∧ Tab h1 1 Ai N (slcRows N (fun v => (ins arcs v).length) I) ∧
    Tab h1 1 Ao N (slcRows N (fun v => (outs arcs v).length) O) ∧ (∀ v, v < N → Tab h1 1 (I v).1 (ins arcs v).length (idxRows (ins arcs v))) ∧ ∀ v, v < N → Tab h1 1 (O v).1 (outs arcs v).length (idxRows (outs arcs v))) :
    wpIR Try.prog 42 ((IR.reg ir16_r11).seq IR.ret) (wpEnd Try.prog Try.f16.results.toList fun r h' => NewAt h N arcs r h') e (newL [.slice Aa arcs.length ca', .slice Ai N ci, .slice Ao N co] n N gT gF (newT arcs n)) h1 := by
  subst hn
  obtain ⟨I, O, w1, w2, w3, w4, w5⟩ := hw
  have he : e = upd e 5 (.p 0 0) := by
    funext t
    unfold upd
    by_cases q : t = 5
    · subst q; exact h5
    · rw [show Nat.beq t 5 = false from Bool.eq_false_iff.2 fun k => q (Nat.eq_of_beq_eq_true k)]; rfl
  rw [he]
  conv => whnf
  refine .mk fun b hb => ?_
  conv => whnf
  refine .pub 1 3 1 (some gT) arcs.length arcs.length _ rfl fun h2 hle2 hr2 hf2 => .pub 2 3 1 (some gF) N N _ rfl fun h3 hle3 hr3 hf3 => .done ?_
  have hz : List.replicate N (iv 0) = (List.replicate N (0 : Int)).map iv := by simp
  rw [hz] at hr3
  obtain ⟨gt, rfl, q2⟩ := hr2.full
  obtain ⟨gf, rfl, q3⟩ := hr3.full
  have n2 := hf2 _ rfl
  have n3 := hf3 _ rfl
  have b2 : h2 b = _ := hle2 _ _ put_at
  have b3 := hle3 _ _ b2
  have t3 := hle3 _ _ q2
  have nbt : b ≠ gt := fun q => by subst q; rw [show (⟨b, 0, none⟩ : Addr).block = b from rfl, put_at] at n2; cases n2
  have nbf : b ≠ gf := fun q => by subst q; rw [show (⟨b, 0, none⟩ : Addr).block = b from rfl, b2] at n3; cases n3
  have ntf : gt ≠ gf := fun q => by subst q; rw [show (⟨gt, 0, none⟩ : Addr).block = gt from rfl, q2] at n3; cases n3
  have lF : h1.le ((h3.del gt).del gf) := fun j o q => by
    have e1 : j ≠ gt := fun k => by subst k; cases (Hp.le_put hb _ _ q).symm.trans n2
    have p2 := hle2 _ _ (Hp.le_put hb _ _ q)
    have e2 : j ≠ gf := fun k => by subst k; cases p2.symm.trans n3
    rw [Hp.del_ne _ e2, Hp.del_ne _ e1]
    exact hle3 _ _ p2
  refine ⟨(h3.del gt).del gf, b, gt, gf, rfl, Hp.le_trans hle lF, ⟨Aa, Ai, Ao, ca', ci, co, I, O, ?_, w1.mono lF, w2.mono lF, w3.mono lF, fun v hv => (w4 v hv).mono lF, fun v hv => (w5 v hv).mono lF, ?_, Hp.del_same _ _, ntf⟩, ?_⟩
  · rw [Hp.del_ne _ nbf, Hp.del_ne _ nbt, b3]
  · rw [Hp.del_ne _ ntf, Hp.del_same]
  · rw [← newT_all]; exact st_of t3 q3
theorem newLoop (Q : Post) (e : Env) (L : List LE) (h : Hp) (perm : List Nat) (N n ca : Nat) (arcs : List Arc) (A : Option Addr) (va vb vc : Value) (gT gF : Addr) (hs : chk N arcs = 0) (hn : arcs.length = n) (ht : Tab h 5 A n (arcs.map Arc.cells))
    (he : [5, 25, 26, 27].map e = ([.p 0 0, .v (.slice A n ca), .v (iv n), .v (iv (0 : Nat))] : List SV).map (renS perm)) (hd : diffB perm = true)
    (hL : pickL L perm = some (([.own ([va, vb, vc].map .v ++ [.v (.slice (some gT) n n), .v (.slice (some gF) N N)]) 57, .row 3 1 (some gT) n n (List.replicate n (iv 0)), .row 3 1 (some gF) N N (List.replicate N (iv 0))] : List LE).map (renLE perm)))
    (hQ : ∀ e, e 5 = .p 0 0 → Q (.exit 0) e (newL [va, vb, vc] n N gT gF (newT arcs n)) h) :
    EvLoop (fun Q e L h => wpIR Try.prog 42 ir16_l1 Q e L h) Q e L h := by
  subst hn
  have hsz := (chk_zero hs).2.2.1
  rw [← newT_zero] at hL
  refine .mkP perm Nat [5, 25, 26, 27] (fun k => [.p 0 0, .v (.slice A arcs.length ca), .v (iv arcs.length), .v (iv k)]) (fun k => newL [va, vb, vc] arcs.length N gT gF (newT arcs k))
    (fun k h' => h' = h ∧ k ≤ arcs.length) (fun k => arcs.length - k) 0 (fun _ => rfl) ⟨rfl, Nat.zero_le _⟩ he hd hL ?_
  rintro k e h' ⟨rfl, hk⟩
  conv => whnf
  refine br_dec (fun h1 => ?_) (fun h1 => ?_)
  · have hi : k < arcs.length := by omega
    obtain ⟨g, hg⟩ := ht.ad (by omega)
    conv => whnf
    refine .mk g hg (by omega) (by omega) ?_
    conv => whnf
    refine .hp arcs[k].cells rfl (by rw [Int.toNat_natCast]; exact ht.row hg (map_get hi)) ?_
    conv => whnf
    refine .mk gT rfl (by omega) (by omega) ?_
    conv => whnf
    refine .row 1 3 1 gT arcs.length arcs.length _ _ k rfl (by rw [Int.toNat_natCast, Nat.mul_one]) (over_one _ _ _ (by simp only [List.length_map, newT_len arcs k hk]; exact hi)) ?_
    conv => whnf
    refine .ok (by omega) (by omega) ?_
    conv => whnf
    refine ⟨k + 1, rfl, ?_, ⟨rfl, hi⟩, by show arcs.length - (k + 1) < arcs.length - k; omega⟩
    rw [← newT_step hi]
    show _ = newL [va, vb, vc] arcs.length N gT gF ((newT arcs k).set k arcs[k].start)
    rw [newL, List.map_set]
    rfl
  · have : k = arcs.length := by omega
    subst this
    conv => whnf
    exact hQ _ rfl
theorem new16_bad (N : Int) (n ca : Nat) (arcs : List Arc) (A : Option Addr) (h : Hp) (ht : Tab h 5 A n (arcs.map Arc.cells)) (hn : n * 40 ≤ 140737488355328) (hs : chk N arcs ≠ 0) :
    Fn Try.prog 16 #[netV N A n ca] h fun r h' => r = .tuple #[.pointer none, iv (chk N arcs)] ∧ h' = h := by
  refine Fn.intro (args := [netV N A n ca]) mix14 Try.func16 rfl (by decide) Try.ntmps16 rfl (low16 rfl) rfl ?_
  conv => whnf
  refine .done (.mk _ (check19 N A n ca arcs h ht (by omega)) ?_)
  rintro _ h' ⟨rfl, rfl⟩
  conv => whnf
  refine br_dec (fun h1 => ?_) (fun h1 => absurd h1 (by simpa using hs))
  conv => whnf
  exact .done ⟨rfl, rfl⟩
theorem new16 (N n ca : Nat) (arcs : List Arc) (A : Option Addr) (h : Hp) (ht : Tab h 5 A n (arcs.map Arc.cells)) (hn : n * 40 ≤ 140737488355328) (hs : chk N arcs = 0) :
    Fn Try.prog 16 #[netV N A n ca] h fun r h' => NewAt h N arcs r h' := by
  have hlen : arcs.length = n := by simpa using ht.len
  have hb := (chk_zero hs).2.1
  refine Fn.intro (args := [netV N A n ca]) mix14 Try.func16 rfl (by decide) Try.ntmps16 rfl (low16 rfl) rfl ?_
  conv => whnf
  refine .done (.mk _ (check19 N A n ca arcs h ht (by omega)) ?_)
  rintro _ h ⟨rfl, rfl⟩
  conv => whnf
  refine br_dec (fun h1 => absurd hs (by simpa using h1)) (fun h1 => ?_)
  · conv => whnf
    refine And.intro ?_ ?_
    · conv => whnf
      refine .mk _ (weave23 N n ca arcs A _ hs ht hn) (fun _ _ q => q.1) ?_
      rintro _ h1 ⟨hle, Aa, Ai, Ao, c1, ci, co, I, O, rfl, w1, w2, w3, w4, w5⟩
      conv => whnf
      refine And.intro ?_ ?_
      · conv => whnf
        refine EvMake.one n (iv 0) rfl rfl rfl rfl (by omega) (by omega) fun gT => ?_
        conv => whnf
        refine EvMake.one N (iv 0) rfl rfl rfl rfl (by omega) (by omega) fun gF => ?_
        conv => whnf
        exact newLoop _ _ _ h1 [3, 1, 2] N n ca arcs A (.slice Aa arcs.length c1) (.slice Ai N ci) (.slice Ao N co) gT gF hs hlen (ht.mono hle) rfl rfl rfl fun e h5 => newEnd e h h1 N n arcs Aa Ai Ao c1 ci co gT gF hlen hle h5 ⟨I, O, w1, w2, w3, w4, w5⟩
      · conv => whnf
        refine EvMake.one N (iv 0) rfl rfl rfl rfl (by omega) (by omega) fun gF => ?_
        conv => whnf
        refine EvMake.one n (iv 0) rfl rfl rfl rfl (by omega) (by omega) fun gT => ?_
        conv => whnf
        exact newLoop _ _ _ h1 [3, 2, 1] N n ca arcs A (.slice Aa arcs.length c1) (.slice Ai N ci) (.slice Ao N co) gT gF hs hlen (ht.mono hle) rfl rfl rfl fun e h5 => newEnd e h h1 N n arcs Aa Ai Ao c1 ci co gT gF hlen hle h5 ⟨I, O, w1, w2, w3, w4, w5⟩
    · conv => whnf
      refine And.intro ?_ ?_
      · conv => whnf
        refine EvMake.one n (iv 0) rfl rfl rfl rfl (by omega) (by omega) fun gT => ?_
        conv => whnf
        refine And.intro ?_ ?_
        · conv => whnf
          refine .mk _ (weave23 N n ca arcs A _ hs ht hn) (fun _ _ q => q.1) ?_
          rintro _ h1 ⟨hle, Aa, Ai, Ao, c1, ci, co, I, O, rfl, w1, w2, w3, w4, w5⟩
          conv => whnf
          refine EvMake.one N (iv 0) rfl rfl rfl rfl (by omega) (by omega) fun gF => ?_
          conv => whnf
          exact newLoop _ _ _ h1 [3, 1, 2] N n ca arcs A (.slice Aa arcs.length c1) (.slice Ai N ci) (.slice Ao N co) gT gF hs hlen (ht.mono hle) rfl rfl rfl fun e h5 => newEnd e h h1 N n arcs Aa Ai Ao c1 ci co gT gF hlen hle h5 ⟨I, O, w1, w2, w3, w4, w5⟩
        · conv => whnf
          refine EvMake.one N (iv 0) rfl rfl rfl rfl (by omega) (by omega) fun gF => ?_
          conv => whnf
          refine .mk _ (weave23 N n ca arcs A _ hs ht hn) (fun _ _ q => q.1) ?_
          rintro _ h1 ⟨hle, Aa, Ai, Ao, c1, ci, co, I, O, rfl, w1, w2, w3, w4, w5⟩
          conv => whnf
          exact newLoop _ _ _ h1 [3, 1, 2] N n ca arcs A (.slice Aa arcs.length c1) (.slice Ai N ci) (.slice Ao N co) gT gF hs hlen (ht.mono hle) rfl rfl rfl fun e h5 => newEnd e h h1 N n arcs Aa Ai Ao c1 ci co gT gF hlen hle h5 ⟨I, O, w1, w2, w3, w4, w5⟩
      · conv => whnf
        refine EvMake.one N (iv 0) rfl rfl rfl rfl (by omega) (by omega) fun gF => ?_
        conv => whnf
        refine And.intro ?_ ?_
        · conv => whnf
          refine .mk _ (weave23 N n ca arcs A _ hs ht hn) (fun _ _ q => q.1) ?_
          rintro _ h1 ⟨hle, Aa, Ai, Ao, c1, ci, co, I, O, rfl, w1, w2, w3, w4, w5⟩
          conv => whnf
          refine EvMake.one n (iv 0) rfl rfl rfl rfl (by omega) (by omega) fun gT => ?_
          conv => whnf
          exact newLoop _ _ _ h1 [3, 2, 1] N n ca arcs A (.slice Aa arcs.length c1) (.slice Ai N ci) (.slice Ao N co) gT gF hs hlen (ht.mono hle) rfl rfl rfl fun e h5 => newEnd e h h1 N n arcs Aa Ai Ao c1 ci co gT gF hlen hle h5 ⟨I, O, w1, w2, w3, w4, w5⟩
        · conv => whnf
          refine EvMake.one n (iv 0) rfl rfl rfl rfl (by omega) (by omega) fun gT => ?_
          conv => whnf
          refine .mk _ (weave23 N n ca arcs A _ hs ht hn) (fun _ _ q => q.1) ?_
          rintro _ h1 ⟨hle, Aa, Ai, Ao, c1, ci, co, I, O, rfl, w1, w2, w3, w4, w5⟩
          conv => whnf
          exact newLoop _ _ _ h1 [3, 2, 1] N n ca arcs A (.slice Aa arcs.length c1) (.slice Ai N ci) (.slice Ao N co) gT gF hs hlen (ht.mono hle) rfl rfl rfl fun e h5 => newEnd e h h1 N n arcs Aa Ai Ao c1 ci co gT gF hlen hle h5 ⟨I, O, w1, w2, w3, w4, w5⟩
end Go.Sx
