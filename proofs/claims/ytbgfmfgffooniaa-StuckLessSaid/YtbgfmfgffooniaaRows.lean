/-
  No cell of these rows narrows 'for every input' (looked for: loops, veiled, ifaces, maps, wideKeys, modest, calm, conditions, laid).
  DERIVED. THE GIVEN ROWS OF THIS SEAT. 6 by the template 'for every input the law returns true; each argument reads behind the call as it read before'; 0 by the template 'total and deterministic' (their statements: YtbgfmfgffooniaaTotals.lean).
  GIVEN WITH THE SEED: the statements are not yours to turn. If you find one false, say at which input.
  Laid BY PROGRAM, IN A SANDBOX (cutbox-rows.mjs): the forced cells as the released guide's own fill.sh prints them over the translation d6c7294267defc88… (all of the seat's roots in one cut). By AI agents, Wed Nov 11 2026. No macro, syntax, notation, axiom, sorry.
-/
import Derived.Test.YtbgfmfgffooniaaChecked
import GoSem.Claim
import GoSem.ClaimJoined
import GoSem.ClaimMapViews
import Derived.JoinedTies
import Derived.KernelRfl
namespace Go.Proofs.Ytbgfmfgffooniaa
/- THE CELL 'sum', in the pinned program and in every row, IS THE sha256 OF THE DUMP (.gsa) THAT YtbgfmfgffooniaaProg.lean LOADS. Nothing in Lean hashes anything: it is a label: what it is worth is what the hold of that sum in a sandbox is worth. -/
noncomputable def Try.pinned : Pinned := { name := "ytbgfmfgffooniaa", sum := "d6c7294267defc8890311fa56540f63c1844df9d62b39ecb63d6cf50f9d51e07", checked := Try.checked }
namespace Rows
def none {H : Type} : Left H := { results := [], args := [] }

/-- 'pianolalaw14.StuckConfirms': WHATEVER THE INPUT: true; the input reads as it did. -/
def stuckConfirmsSpec : ChangeSpec := { name := "stuckConfirms", fn := fun _ => fun
  | [d1, d2] => { results := [.lit (.bool true)], args := [d1, d2] }
  | _ => none }
def stuckConfirmsRow : OpenClaim := { program := "ytbgfmfgffooniaa", sum := "d6c7294267defc8890311fa56540f63c1844df9d62b39ecb63d6cf50f9d51e07", func := "pianola/pianolalaw14.StuckConfirms", spec := "stuckConfirms", apart := false }
def StuckConfirmsSaid : Prop := stuckConfirmsRow.holds Try.pinned (OpenSpec.ofChange stuckConfirmsSpec)

/-- ITS FALSE NEIGHBOUR: 'it returns false'. Refute it at one input. -/
def stuckConfirmsWrong : ChangeSpec := { name := "stuckConfirms", fn := fun _ => fun
  | [d1, d2] => { results := [.lit (.bool false)], args := [d1, d2] }
  | _ => none }
def StuckConfirmsWrongFalsely : Prop := stuckConfirmsRow.holds Try.pinned (OpenSpec.ofChange stuckConfirmsWrong)

/-- 'pianolalaw14.StuckOrder': WHATEVER THE INPUT: true; the input reads as it did. -/
def stuckOrderSpec : ChangeSpec := { name := "stuckOrder", fn := fun _ => fun
  | [d1, d2, d3] => { results := [.lit (.bool true)], args := [d1, d2, d3] }
  | _ => none }
def stuckOrderRow : OpenClaim := { program := "ytbgfmfgffooniaa", sum := "d6c7294267defc8890311fa56540f63c1844df9d62b39ecb63d6cf50f9d51e07", func := "pianola/pianolalaw14.StuckOrder", spec := "stuckOrder", apart := false }
def StuckOrderSaid : Prop := stuckOrderRow.holds Try.pinned (OpenSpec.ofChange stuckOrderSpec)

/-- ITS FALSE NEIGHBOUR: 'it returns false'. Refute it at one input. -/
def stuckOrderWrong : ChangeSpec := { name := "stuckOrder", fn := fun _ => fun
  | [d1, d2, d3] => { results := [.lit (.bool false)], args := [d1, d2, d3] }
  | _ => none }
def StuckOrderWrongFalsely : Prop := stuckOrderRow.holds Try.pinned (OpenSpec.ofChange stuckOrderWrong)

/-- 'pianolalaw14.StuckMore': WHATEVER THE INPUT: true; the input reads as it did. -/
def stuckMoreSpec : ChangeSpec := { name := "stuckMore", fn := fun _ => fun
  | [d1, d2, d3] => { results := [.lit (.bool true)], args := [d1, d2, d3] }
  | _ => none }
def stuckMoreRow : OpenClaim := { program := "ytbgfmfgffooniaa", sum := "d6c7294267defc8890311fa56540f63c1844df9d62b39ecb63d6cf50f9d51e07", func := "pianola/pianolalaw14.StuckMore", spec := "stuckMore", apart := false }
def StuckMoreSaid : Prop := stuckMoreRow.holds Try.pinned (OpenSpec.ofChange stuckMoreSpec)

/-- ITS FALSE NEIGHBOUR: 'it returns false'. Refute it at one input. -/
def stuckMoreWrong : ChangeSpec := { name := "stuckMore", fn := fun _ => fun
  | [d1, d2, d3] => { results := [.lit (.bool false)], args := [d1, d2, d3] }
  | _ => none }
def StuckMoreWrongFalsely : Prop := stuckMoreRow.holds Try.pinned (OpenSpec.ofChange stuckMoreWrong)

/-- 'pianolalaw14.StuckHolds': WHATEVER THE INPUT: true; the input reads as it did. -/
def stuckHoldsSpec : ChangeSpec := { name := "stuckHolds", fn := fun _ => fun
  | [d1, d2, d3] => { results := [.lit (.bool true)], args := [d1, d2, d3] }
  | _ => none }
def stuckHoldsRow : OpenClaim := { program := "ytbgfmfgffooniaa", sum := "d6c7294267defc8890311fa56540f63c1844df9d62b39ecb63d6cf50f9d51e07", func := "pianola/pianolalaw14.StuckHolds", spec := "stuckHolds", apart := false }
def StuckHoldsSaid : Prop := stuckHoldsRow.holds Try.pinned (OpenSpec.ofChange stuckHoldsSpec)

/-- ITS FALSE NEIGHBOUR: 'it returns false'. Refute it at one input. -/
def stuckHoldsWrong : ChangeSpec := { name := "stuckHolds", fn := fun _ => fun
  | [d1, d2, d3] => { results := [.lit (.bool false)], args := [d1, d2, d3] }
  | _ => none }
def StuckHoldsWrongFalsely : Prop := stuckHoldsRow.holds Try.pinned (OpenSpec.ofChange stuckHoldsWrong)

/-- 'pianolalaw14.StuckLess': WHATEVER THE INPUT: true; the input reads as it did. -/
def stuckLessSpec : ChangeSpec := { name := "stuckLess", fn := fun _ => fun
  | [d1, d2, d3] => { results := [.lit (.bool true)], args := [d1, d2, d3] }
  | _ => none }
def stuckLessRow : OpenClaim := { program := "ytbgfmfgffooniaa", sum := "d6c7294267defc8890311fa56540f63c1844df9d62b39ecb63d6cf50f9d51e07", func := "pianola/pianolalaw14.StuckLess", spec := "stuckLess", apart := false }
def StuckLessSaid : Prop := stuckLessRow.holds Try.pinned (OpenSpec.ofChange stuckLessSpec)

/-- ITS FALSE NEIGHBOUR: 'it returns false'. Refute it at one input. -/
def stuckLessWrong : ChangeSpec := { name := "stuckLess", fn := fun _ => fun
  | [d1, d2, d3] => { results := [.lit (.bool false)], args := [d1, d2, d3] }
  | _ => none }
def StuckLessWrongFalsely : Prop := stuckLessRow.holds Try.pinned (OpenSpec.ofChange stuckLessWrong)

/-- 'pianolalaw14.StuckFree': WHATEVER THE INPUT: true; the input reads as it did. -/
def stuckFreeSpec : ChangeSpec := { name := "stuckFree", fn := fun _ => fun
  | [d1, d2] => { results := [.lit (.bool true)], args := [d1, d2] }
  | _ => none }
def stuckFreeRow : OpenClaim := { program := "ytbgfmfgffooniaa", sum := "d6c7294267defc8890311fa56540f63c1844df9d62b39ecb63d6cf50f9d51e07", func := "pianola/pianolalaw14.StuckFree", spec := "stuckFree", apart := false }
def StuckFreeSaid : Prop := stuckFreeRow.holds Try.pinned (OpenSpec.ofChange stuckFreeSpec)

/-- ITS FALSE NEIGHBOUR: 'it returns false'. Refute it at one input. -/
def stuckFreeWrong : ChangeSpec := { name := "stuckFree", fn := fun _ => fun
  | [d1, d2] => { results := [.lit (.bool false)], args := [d1, d2] }
  | _ => none }
def StuckFreeWrongFalsely : Prop := stuckFreeRow.holds Try.pinned (OpenSpec.ofChange stuckFreeWrong)

/- THE SECOND FORM. 'bulk': how many values and letters a reading holds, each counted each time it is reached (what is shared counts as often as it is met; a slice's spare places count too). A statement '..UptoSaid' is the law's where the arguments, and the package variables that the reading takes, are together of bulk at most 1048576: NARROWER than '..Said'. Prove '..Said' where nothing that the law and all that it calls make is longer than what came in: it says more and counts as full. Else prove '..UptoSaid'. A law counts once. -/
mutual
def uptoBulk {H : Type} : DataW H → Nat
  | .lit (.string bytes) => bytes.length + 1
  | .lit _ => 1
  | .nil => 1
  | .ptr d => uptoBulk d + 1
  | .slice elems spare => uptoBulkAll elems + uptoBulkAll spare + 1
  | .agg parts => uptoBulkAll parts + 1
  | .iface _ d => uptoBulk d + 1
  | .map entries => uptoBulkEntries entries + 1
  | .held _ => 1
def uptoBulkAll {H : Type} : List (DataW H) → Nat
  | [] => 0
  | d :: r => uptoBulk d + uptoBulkAll r
def uptoBulkEntries {H : Type} : List (Lit × DataW H) → Nat
  | [] => 0
  | x :: r => uptoBulkEntry x + uptoBulkEntries r
def uptoBulkEntry {H : Type} : Lit × DataW H → Nat
  | (.string bytes, d) => bytes.length + uptoBulk d + 1
  | (_, d) => uptoBulk d + 1
 end
def uptoSmall : (H : Type) → List (DataW H) → Bool := fun _ ds => decide (uptoBulkAll ds ≤ 1048576)
def OpenSpec.upto (s : _root_.Go.ChangeSpec) : _root_.Go.OpenSpec := { _root_.Go.OpenSpec.ofChange s with cond := some uptoSmall }

/-- 'pianolalaw14.StuckConfirms', WHERE WHAT IT READS IS OF BULK AT MOST 1048576: true; the input reads as it did. -/
def stuckConfirmsUptoRow : OpenClaim := { program := "ytbgfmfgffooniaa", sum := "d6c7294267defc8890311fa56540f63c1844df9d62b39ecb63d6cf50f9d51e07", func := "pianola/pianolalaw14.StuckConfirms", spec := "stuckConfirms", apart := false, narrowed := true }
def StuckConfirmsUptoSaid : Prop := stuckConfirmsUptoRow.holds Try.pinned (OpenSpec.upto stuckConfirmsSpec)

/-- 'pianolalaw14.StuckOrder', WHERE WHAT IT READS IS OF BULK AT MOST 1048576: true; the input reads as it did. -/
def stuckOrderUptoRow : OpenClaim := { program := "ytbgfmfgffooniaa", sum := "d6c7294267defc8890311fa56540f63c1844df9d62b39ecb63d6cf50f9d51e07", func := "pianola/pianolalaw14.StuckOrder", spec := "stuckOrder", apart := false, narrowed := true }
def StuckOrderUptoSaid : Prop := stuckOrderUptoRow.holds Try.pinned (OpenSpec.upto stuckOrderSpec)

/-- 'pianolalaw14.StuckMore', WHERE WHAT IT READS IS OF BULK AT MOST 1048576: true; the input reads as it did. -/
def stuckMoreUptoRow : OpenClaim := { program := "ytbgfmfgffooniaa", sum := "d6c7294267defc8890311fa56540f63c1844df9d62b39ecb63d6cf50f9d51e07", func := "pianola/pianolalaw14.StuckMore", spec := "stuckMore", apart := false, narrowed := true }
def StuckMoreUptoSaid : Prop := stuckMoreUptoRow.holds Try.pinned (OpenSpec.upto stuckMoreSpec)

/-- 'pianolalaw14.StuckHolds', WHERE WHAT IT READS IS OF BULK AT MOST 1048576: true; the input reads as it did. -/
def stuckHoldsUptoRow : OpenClaim := { program := "ytbgfmfgffooniaa", sum := "d6c7294267defc8890311fa56540f63c1844df9d62b39ecb63d6cf50f9d51e07", func := "pianola/pianolalaw14.StuckHolds", spec := "stuckHolds", apart := false, narrowed := true }
def StuckHoldsUptoSaid : Prop := stuckHoldsUptoRow.holds Try.pinned (OpenSpec.upto stuckHoldsSpec)

/-- 'pianolalaw14.StuckLess', WHERE WHAT IT READS IS OF BULK AT MOST 1048576: true; the input reads as it did. -/
def stuckLessUptoRow : OpenClaim := { program := "ytbgfmfgffooniaa", sum := "d6c7294267defc8890311fa56540f63c1844df9d62b39ecb63d6cf50f9d51e07", func := "pianola/pianolalaw14.StuckLess", spec := "stuckLess", apart := false, narrowed := true }
def StuckLessUptoSaid : Prop := stuckLessUptoRow.holds Try.pinned (OpenSpec.upto stuckLessSpec)

/-- 'pianolalaw14.StuckFree', WHERE WHAT IT READS IS OF BULK AT MOST 1048576: true; the input reads as it did. -/
def stuckFreeUptoRow : OpenClaim := { program := "ytbgfmfgffooniaa", sum := "d6c7294267defc8890311fa56540f63c1844df9d62b39ecb63d6cf50f9d51e07", func := "pianola/pianolalaw14.StuckFree", spec := "stuckFree", apart := false, narrowed := true }
def StuckFreeUptoSaid : Prop := stuckFreeUptoRow.holds Try.pinned (OpenSpec.upto stuckFreeSpec)

end Rows
end Go.Proofs.Ytbgfmfgffooniaa
