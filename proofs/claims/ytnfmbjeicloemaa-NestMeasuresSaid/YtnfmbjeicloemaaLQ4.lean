/- NestMeasures: the law's own function answers true. Conditions: none. -/
import Derived.Test.YtnfmbjeicloemaaN16U
namespace Go.Sx
open Go.Proofs
theorem lawQ4 (l : Lo) (A : Option Addr) (m cap : Nat) (h : Hp) (hs : SAt h A m l) : Fn Try.prog 4 #[.slice A m cap] h fun v h' => v = .bool true ∧ h.le h' := by
  refine Fn.intro (args := [.slice A m cap]) mix16 Try.func4 rfl (by decide) Try.ntmps4 rfl (low4 rfl) rfl ?_
  conv => whnf
  refine .done (.mk _ (heavy14 l A m cap h hs) ?_)
  rintro _ h1 ⟨rfl, hv, rfl, hc⟩
  cases hv with
  | true =>
    conv => whnf
    exact .done ⟨rfl, Hp.le_refl _⟩
  | false =>
    have hc := hc rfl
    conv => whnf
    refine .done (.mk _ (lent15 _ l (Nat.lt_succ_self _) hc A m cap h1 hs) ?_)
    rintro _ h2 ⟨l2, A2, c2, t2, rfl, m2, f2⟩
    have m2 := m2.mono (Hp.sub_le _ _)
    have hc2 : t2.cnt ≤ 65536 := by rw [← t2.fo_cnt, f2, l.fo_cnt]; exact hc
    obtain ⟨a, b, c, d, hsz⟩ : ∃ a b c d, sizeF l.fo = sizeV a b c d := by unfold sizeF; split <;> exact ⟨_, _, _, _, rfl⟩
    conv => whnf
    refine .done (.mk _ (measure20 t2 hc2 A2 m c2 h2 m2.sat) ?_)
    rintro _ h3 ⟨l3, rfl⟩
    rw [f2, hsz]
    have l13 := Hp.le_trans l2 l3
    conv => whnf
    refine .done (.mk _ (measure21 l hc A m cap h3 (hs.mono l13)) ?_)
    rintro _ h4 ⟨rfl, rfl⟩
    rw [hsz]
    conv => whnf
    refine .done (.mk _ (awake16 h4) ?_)
    rintro _ h5 ⟨rfl, l5⟩
    have l15 := Hp.le_trans l13 l5
    conv => whnf
    refine br_intro (fun _ => ?_) (fun q => absurd q (by simp [flip]))
    conv => whnf
    refine br_dec (fun _ => ?_) (fun q => absurd rfl q)
    conv => whnf
    refine .done (.mk _ (kept19 _ l (Nat.lt_succ_self _) hc t2 A2 A m c2 cap h5 f2 (m2.mono (Hp.le_trans l3 l5)) (hs.mono l15)) ?_)
    rintro _ h6 ⟨rfl, rfl⟩
    conv => whnf
    exact .done ⟨rfl, l15⟩
end Go.Sx
