/- Layer 14: the small functions. Conditions: none. -/
import Derived.Test.YtbgfmfgffooniaaC1
import Derived.Test.YtbgfmfgffooniaaIr14
namespace Go.Sx
open Go.Proofs
theorem mix14 : Try.prog.follows .mixedOrders = true := by kernel_rfl
def okRate (k : Int) : Bool := decide (1 ≤ k) && decide (k ≤ 64)
def okNode (N v : Int) : Bool := decide (0 ≤ v) && decide (v < N)
theorem rate28 (k : Int) (h : Hp) : Fn Try.prog 28 #[iv k] h fun v h' => v = .bool (okRate k) ∧ h' = h := by
  refine Fn.intro (args := [iv k]) mix14 Try.func28 rfl (by decide) Try.ntmps28 rfl (low28 rfl) rfl ?_
  conv => whnf
  refine br_dec (fun h1 => ?_) (fun h1 => ?_)
  · conv => whnf
    refine .done ⟨?_, rfl⟩
    simp [okRate, h1, oneVal]
  · conv => whnf
    refine .done ⟨?_, rfl⟩
    simp [okRate, h1, oneVal]
theorem node27 (N v : Int) (A : Option Addr) (m cap : Nat) (h : Hp) : Fn Try.prog 27 #[netV N A m cap, iv v] h fun r h' => r = .bool (okNode N v) ∧ h' = h := by
  refine Fn.intro (args := [netV N A m cap, iv v]) mix14 Try.func27 rfl (by decide) Try.ntmps27 rfl (low27 rfl) rfl ?_
  conv => whnf
  refine br_dec (fun h1 => ?_) (fun h1 => ?_)
  · conv => whnf
    refine .done ⟨?_, rfl⟩
    simp [okNode, h1, oneVal]
  · conv => whnf
    refine .done ⟨?_, rfl⟩
    simp [okNode, h1, oneVal]

theorem find22 (v : Int) (A : Option Addr) (n cap : Nat) (l : List Blk) (h : Hp) (ht : Tab h 3 A n (l.map Blk.cells)) (hn : n ≤ 9223372036854775806) :
    Fn Try.prog 22 #[.slice A n cap, iv v] h fun r h' => r = iv (findFrom v l 0) ∧ h' = h := by
  have hl : l.length = n := by simpa using ht.len
  refine Fn.intro (args := [.slice A n cap, iv v]) mix14 Try.func22 rfl (by decide) Try.ntmps22 rfl (low22 rfl) rfl ?_
  conv => whnf
  refine .mk Nat [0, 1, 5] (fun i => [.v (.slice A n cap), .v (iv v), .v (iv i)]) (fun _ => []) (fun i h' => h' = h ∧ i ≤ n ∧ findFrom v (l.drop i) i = findFrom v l 0) (fun i => n - i) 0 (fun _ => rfl) ⟨rfl, Nat.zero_le _, rfl⟩ rfl rfl ?_
  rintro i e h' ⟨rfl, hi, hf⟩
  conv => whnf
  refine br_dec (fun h1 => ?_) (fun h1 => ?_)
  · have hi' : i < n := by omega
    have hd : l.drop i = l[i] :: l.drop (i + 1) := List.drop_eq_getElem_cons (by omega)
    obtain ⟨g, hg⟩ := ht.ad (by omega)
    conv => whnf
    refine .mk g hg (by omega) (by omega) ?_
    conv => whnf
    refine .hp (iv l[i].node) (by rw [Int.toNat_natCast]; exact ht.one hg (map_get (by omega)) rfl) ?_
    conv => whnf
    refine br_dec (fun h2 => ?_) (fun h2 => ?_)
    · conv => whnf
      refine .done ⟨?_, rfl⟩
      rw [← hf, hd]
      simp [findFrom, h2, oneVal, iv]
    · conv => whnf
      refine .ok (by omega) (by omega) ?_
      conv => whnf
      refine ⟨i + 1, rfl, rfl, ⟨rfl, hi', ?_⟩, by omega⟩
      rw [← hf, hd]
      simp only [findFrom, if_neg h2]
  · conv => whnf
    refine .done ⟨?_, rfl⟩
    rw [← hf, List.drop_eq_nil_of_le (by omega)]
    rfl
end Go.Sx
