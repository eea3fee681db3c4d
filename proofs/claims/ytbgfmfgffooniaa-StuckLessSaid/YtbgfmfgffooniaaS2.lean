/- Layer 14: the checks of a net. Conditions: none. -/
import Derived.Test.YtbgfmfgffooniaaS1
namespace Go.Sx
open Go.Proofs
def okArc (N : Int) (a : Arc) : Int :=
  if (!(okNode N a.src && okNode N a.dst)) = true then 100 else if (!(okRate a.give && okRate a.take)) = true then 101 else if a.start < 0 ∨ 256 < a.start then 88 else 0
def chkL (N : Int) : List Arc → Int
  | [] => 0
  | a :: l => if okArc N a ≠ 0 then okArc N a else chkL N l
def chk (N : Int) (l : List Arc) : Int := if N < 1 ∨ 32 < N then 100 else if 96 < l.length then 81 else chkL N l

theorem check20 (N : Int) (A : Option Addr) (n cap : Nat) (l : List Arc) (h : Hp) (ht : Tab h 5 A n (l.map Arc.cells)) (hn : n ≤ 9223372036854775806) :
    Fn Try.prog 20 #[netV N A n cap] h fun r h' => r = iv (chk N l) ∧ h' = h := by
  have hl : l.length = n := by simpa using ht.len
  refine Fn.intro (args := [netV N A n cap]) mix14 Try.func20 rfl (by decide) Try.ntmps20 rfl (low20 rfl) rfl ?_
  conv => whnf
  refine br_dec (fun h1 => ?_) (fun h1 => ?_)
  · conv => whnf
    refine .done ⟨?_, rfl⟩
    simp [chk, h1, oneVal, iv]
  conv => whnf
  refine br_dec (fun h2 => ?_) (fun h2 => ?_)
  · conv => whnf
    refine .done ⟨?_, rfl⟩
    simp [chk, h2, oneVal, iv]
  conv => whnf
  refine br_dec (fun h3 => ?_) (fun h3 => ?_)
  · conv => whnf
    refine .done ⟨?_, rfl⟩
    simp [chk, oneVal, iv]; omega
  conv => whnf
  refine .mk Nat [1, 3] (fun i => [.p 0 0, .v (iv i)]) (fun _ => [.own [.v (iv N), .v (.slice A n cap)] 24]) (fun i h' => h' = h ∧ i ≤ n ∧ chkL N (l.drop i) = chkL N l) (fun i => n - i) 0 (fun _ => rfl) ⟨rfl, Nat.zero_le _, rfl⟩ rfl rfl ?_
  rintro i e h' ⟨rfl, hi, hf⟩
  have hc : chk N l = chkL N (l.drop i) := by rw [hf]; simp [chk]; omega
  conv => whnf
  refine br_dec (fun h4 => ?_) (fun h4 => ?_)
  · have hi' : i < n := by omega
    have hd : l.drop i = l[i] :: l.drop (i + 1) := List.drop_eq_getElem_cons (by omega)
    rw [hd] at hc hf
    obtain ⟨g, hg⟩ := ht.ad (by omega)
    conv => whnf
    refine .mk g hg (by omega) (by omega) ?_
    conv => whnf
    refine .hp l[i].cells rfl (by rw [Int.toNat_natCast]; exact ht.row hg (map_get (by omega))) ?_
    conv => whnf
    refine .done (.mk _ (node27 _ _ _ _ _ _) ?_)
    rintro _ _ ⟨rfl, rfl⟩
    have k100 : okArc N l[i] ≠ 0 → chk N l = okArc N l[i] := fun hk => by rw [hc, chkL, if_pos hk]
    have k0 : okArc N l[i] = 0 → chkL N (l.drop (i + 1)) = chkL N l := fun hk => by rw [← hf, chkL, if_neg (by simpa using hk)]
    cases q1 : okNode N l[i].src
    · conv => whnf
      refine .done ⟨?_, rfl⟩
      rw [k100] <;> simp [okArc, q1]
      rfl
    conv => whnf
    refine .done (.mk _ (node27 _ _ _ _ _ _) ?_)
    rintro _ _ ⟨rfl, rfl⟩
    cases q2 : okNode N l[i].dst
    · conv => whnf
      refine .done ⟨?_, rfl⟩
      rw [k100] <;> simp [okArc, q2]
      rfl
    conv => whnf
    refine .done (.mk _ (rate28 _ _) ?_)
    rintro _ _ ⟨rfl, rfl⟩
    cases q3 : okRate l[i].give
    · conv => whnf
      refine .done ⟨?_, rfl⟩
      rw [k100] <;> simp [okArc, q1, q2, q3]
      rfl
    conv => whnf
    refine .done (.mk _ (rate28 _ _) ?_)
    rintro _ _ ⟨rfl, rfl⟩
    cases q4 : okRate l[i].take
    · conv => whnf
      refine .done ⟨?_, rfl⟩
      rw [k100] <;> simp [okArc, q1, q2, q3, q4]
      rfl
    conv => whnf
    refine br_dec (fun q5 => ?_) (fun q5 => ?_)
    · conv => whnf
      refine .done ⟨?_, rfl⟩
      rw [k100] <;> simp [okArc, q1, q2, q3, q4, q5]
      rfl
    conv => whnf
    refine br_dec (fun q6 => ?_) (fun q6 => ?_)
    · conv => whnf
      refine .done ⟨?_, rfl⟩
      rw [k100] <;> simp [okArc, q1, q2, q3, q4, q6]
      rfl
    conv => whnf
    refine .ok (by omega) (by omega) ?_
    conv => whnf
    refine ⟨i + 1, rfl, rfl, ⟨rfl, hi', ?_⟩, by omega⟩
    refine k0 ?_
    simp [okArc, q1, q2, q3, q4]
    omega
  · conv => whnf
    refine .done ⟨?_, rfl⟩
    rw [hc, List.drop_eq_nil_of_le (by omega)]
    rfl

theorem okNode_iff (N v : Int) : okNode N v = true ↔ 0 ≤ v ∧ v < N := by simp [okNode]
theorem okRate_iff (v : Int) : okRate v = true ↔ 1 ≤ v ∧ v ≤ 64 := by simp [okRate]
theorem okArc_100 {N : Int} {a : Arc} (hk : ¬ (okNode N a.src = true ∧ okNode N a.dst = true)) : okArc N a = 100 := by
  cases e1 : okNode N a.src <;> cases e2 : okNode N a.dst <;> simp_all [okArc]
theorem okArc_101 {N : Int} {a : Arc} (h1 : okNode N a.src = true) (h2 : okNode N a.dst = true) (hk : ¬ (okRate a.give = true ∧ okRate a.take = true)) : okArc N a = 101 := by
  cases e1 : okRate a.give <;> cases e2 : okRate a.take <;> simp_all [okArc]
theorem okArc_88 {N : Int} {a : Arc} (h1 : okNode N a.src = true) (h2 : okNode N a.dst = true) (h3 : okRate a.give = true) (h4 : okRate a.take = true) : okArc N a = if a.start < 0 ∨ 256 < a.start then 88 else 0 := by
  simp [okArc, h1, h2, h3, h4]
theorem check19 (N : Int) (A : Option Addr) (n cap : Nat) (l : List Arc) (h : Hp) (ht : Tab h 5 A n (l.map Arc.cells)) (hn : n ≤ 9223372036854775806) :
    Fn Try.prog 19 #[netV N A n cap] h fun r h' => r = iv (chk N l) ∧ h' = h := by
  have hl : l.length = n := by simpa using ht.len
  refine Fn.intro (args := [netV N A n cap]) mix14 Try.func19 rfl (by decide) Try.ntmps19 rfl (low19 rfl) rfl ?_
  conv => whnf
  refine br_dec (fun h1 => ?_) (fun h1 => ?_)
  · conv => whnf
    refine .done ⟨?_, rfl⟩
    simp [chk, h1, oneVal, iv]
  conv => whnf
  refine br_dec (fun h2 => ?_) (fun h2 => ?_)
  · conv => whnf
    refine .done ⟨?_, rfl⟩
    simp [chk, h2, oneVal, iv]
  conv => whnf
  refine br_dec (fun h3 => ?_) (fun h3 => ?_)
  · conv => whnf
    refine .done ⟨?_, rfl⟩
    simp [chk, oneVal, iv]; omega
  conv => whnf
  refine .mk Nat [1, 18, 19, 20] (fun i => [.p 0 0, .v (.slice A n cap), .v (iv n), .v (iv i)]) (fun _ => [.own [.v (iv N), .v (.slice A n cap)] 24]) (fun i h' => h' = h ∧ i ≤ n ∧ chkL N (l.drop i) = chkL N l) (fun i => n - i) 0 (fun _ => rfl) ⟨rfl, Nat.zero_le _, rfl⟩ rfl rfl ?_
  rintro i e h' ⟨rfl, hi, hf⟩
  have hc : chk N l = chkL N (l.drop i) := by rw [hf]; simp [chk]; omega
  conv => whnf
  refine br_dec (fun h4 => ?_) (fun h4 => ?_)
  · have hi' : i < n := by omega
    have hd : l.drop i = l[i] :: l.drop (i + 1) := List.drop_eq_getElem_cons (by omega)
    rw [hd] at hc hf
    obtain ⟨g, hg⟩ := ht.ad (by omega)
    have k100 : okArc N l[i] ≠ 0 → chk N l = okArc N l[i] := fun hk => by rw [hc, chkL, if_pos hk]
    have k0 : okArc N l[i] = 0 → chkL N (l.drop (i + 1)) = chkL N l := fun hk => by rw [← hf, chkL, if_neg (by simpa using hk)]
    have a100 := @okArc_100 N l[i]
    have a101 := @okArc_101 N l[i]
    have a88 := @okArc_88 N l[i]
    simp only [okNode_iff, okRate_iff] at a100 a101 a88
    conv => whnf
    refine .mk g hg (by omega) (by omega) ?_
    conv => whnf
    refine .hp l[i].cells rfl (by rw [Int.toNat_natCast]; exact ht.row hg (map_get (by omega))) ?_
    conv => whnf
    refine br_dec (fun q1 => ?_) (fun q1 => ?_)
    · conv => whnf
      refine .done ⟨?_, rfl⟩
      rw [k100] <;> rw [a100 (by omega)] <;> first | rfl | decide
    conv => whnf
    refine br_dec (fun q2 => ?_) (fun q2 => ?_)
    · conv => whnf
      refine .done ⟨?_, rfl⟩
      rw [k100] <;> rw [a100 (by omega)] <;> first | rfl | decide
    conv => whnf
    refine br_dec (fun q3 => ?_) (fun q3 => ?_)
    · conv => whnf
      refine .done ⟨?_, rfl⟩
      rw [k100] <;> rw [a101 (by omega) (by omega) (by omega)] <;> first | rfl | decide
    conv => whnf
    refine br_dec (fun q4 => ?_) (fun q4 => ?_)
    · conv => whnf
      refine .done ⟨?_, rfl⟩
      rw [k100] <;> rw [a101 (by omega) (by omega) (by omega)] <;> first | rfl | decide
    have a88 := a88 (by omega) (by omega) (by omega) (by omega)
    conv => whnf
    refine br_dec (fun q5 => ?_) (fun q5 => ?_)
    · conv => whnf
      refine .done ⟨?_, rfl⟩
      rw [if_pos (.inl q5)] at a88
      rw [k100] <;> rw [a88] <;> first | rfl | decide
    conv => whnf
    refine br_dec (fun q6 => ?_) (fun q6 => ?_)
    · conv => whnf
      refine .done ⟨?_, rfl⟩
      rw [if_pos (.inr q6)] at a88
      rw [k100] <;> rw [a88] <;> first | rfl | decide
    rw [if_neg (by omega)] at a88
    conv => whnf
    refine .ok (by omega) (by omega) ?_
    conv => whnf
    exact ⟨i + 1, rfl, rfl, ⟨rfl, hi', k0 a88⟩, by omega⟩
  · conv => whnf
    refine .done ⟨?_, rfl⟩
    rw [hc, List.drop_eq_nil_of_le (by omega)]
    rfl
end Go.Sx
