/-
  No cell of these rows narrows 'for every input' (looked for: loops, veiled, ifaces, maps, wideKeys, modest, calm, conditions, laid).
  DERIVED. THE GIVEN ROWS OF THIS SEAT. 6 by the template 'for every input the law returns true; each argument reads behind the call as it read before'; 0 by the template 'total and deterministic' (their statements: YthibgmkobcbhhaaTotals.lean).
  GIVEN WITH THE SEED: the statements are not yours to turn. If you find one false, say at which input.
  Laid BY PROGRAM, IN A SANDBOX (cutbox-rows.mjs): the forced cells as the released guide's own fill.sh prints them over the translation 17f1992e70a4203a… (all of the seat's roots in one cut). By AI agents, Wed Nov 11 2026. No macro, syntax, notation, axiom, sorry.
-/
import Derived.Test.YthibgmkobcbhhaaChecked
import GoSem.Claim
import GoSem.ClaimJoined
import GoSem.ClaimMapViews
import Derived.JoinedTies
import Derived.KernelRfl
namespace Go.Proofs.Ythibgmkobcbhhaa
/- THE CELL 'sum', in the pinned program and in every row, IS THE sha256 OF THE DUMP (.gsa) THAT YthibgmkobcbhhaaProg.lean LOADS. Nothing in Lean hashes anything: it is a label: what it is worth is what the hold of that sum in a sandbox is worth. -/
noncomputable def Try.pinned : Pinned := { name := "ythibgmkobcbhhaa", sum := "17f1992e70a4203abeb5ab5cf27264bfebf82f326a9fb1f958391e9ef0551608", checked := Try.checked }
namespace Rows
def none {H : Type} : Left H := { results := [], args := [] }

/-- 'pianolalaw19.PackClashes': WHATEVER THE INPUT: true; the input reads as it did. -/
def packClashesSpec : ChangeSpec := { name := "packClashes", fn := fun _ => fun
  | [d1, d2] => { results := [.lit (.bool true)], args := [d1, d2] }
  | _ => none }
def packClashesRow : OpenClaim := { program := "ythibgmkobcbhhaa", sum := "17f1992e70a4203abeb5ab5cf27264bfebf82f326a9fb1f958391e9ef0551608", func := "pianola/pianolalaw19.PackClashes", spec := "packClashes", unfollowed := true, recurses := true, plainKeys := false, apart := false }
def PackClashesSaid : Prop := packClashesRow.holds Try.pinned (OpenSpec.ofChange packClashesSpec)

/-- ITS FALSE NEIGHBOUR: 'it returns false'. Refute it at one input. -/
def packClashesWrong : ChangeSpec := { name := "packClashes", fn := fun _ => fun
  | [d1, d2] => { results := [.lit (.bool false)], args := [d1, d2] }
  | _ => none }
def PackClashesWrongFalsely : Prop := packClashesRow.holds Try.pinned (OpenSpec.ofChange packClashesWrong)

/-- 'pianolalaw19.PackHolds': WHATEVER THE INPUT: true; the input reads as it did. -/
def packHoldsSpec : ChangeSpec := { name := "packHolds", fn := fun _ => fun
  | [d1, d2] => { results := [.lit (.bool true)], args := [d1, d2] }
  | _ => none }
def packHoldsRow : OpenClaim := { program := "ythibgmkobcbhhaa", sum := "17f1992e70a4203abeb5ab5cf27264bfebf82f326a9fb1f958391e9ef0551608", func := "pianola/pianolalaw19.PackHolds", spec := "packHolds", unfollowed := true, recurses := true, plainKeys := false, apart := false }
def PackHoldsSaid : Prop := packHoldsRow.holds Try.pinned (OpenSpec.ofChange packHoldsSpec)

/-- ITS FALSE NEIGHBOUR: 'it returns false'. Refute it at one input. -/
def packHoldsWrong : ChangeSpec := { name := "packHolds", fn := fun _ => fun
  | [d1, d2] => { results := [.lit (.bool false)], args := [d1, d2] }
  | _ => none }
def PackHoldsWrongFalsely : Prop := packHoldsRow.holds Try.pinned (OpenSpec.ofChange packHoldsWrong)

/-- 'pianolalaw19.PackTight': WHATEVER THE INPUT: true; the input reads as it did. -/
def packTightSpec : ChangeSpec := { name := "packTight", fn := fun _ => fun
  | [d1, d2] => { results := [.lit (.bool true)], args := [d1, d2] }
  | _ => none }
def packTightRow : OpenClaim := { program := "ythibgmkobcbhhaa", sum := "17f1992e70a4203abeb5ab5cf27264bfebf82f326a9fb1f958391e9ef0551608", func := "pianola/pianolalaw19.PackTight", spec := "packTight", unfollowed := true, recurses := true, plainKeys := false, apart := false }
def PackTightSaid : Prop := packTightRow.holds Try.pinned (OpenSpec.ofChange packTightSpec)

/-- ITS FALSE NEIGHBOUR: 'it returns false'. Refute it at one input. -/
def packTightWrong : ChangeSpec := { name := "packTight", fn := fun _ => fun
  | [d1, d2] => { results := [.lit (.bool false)], args := [d1, d2] }
  | _ => none }
def PackTightWrongFalsely : Prop := packTightRow.holds Try.pinned (OpenSpec.ofChange packTightWrong)

/-- 'pianolalaw19.PackMeets': WHATEVER THE INPUT: true; the input reads as it did. -/
def packMeetsSpec : ChangeSpec := { name := "packMeets", fn := fun _ => fun
  | [d1, d2, d3] => { results := [.lit (.bool true)], args := [d1, d2, d3] }
  | _ => none }
def packMeetsRow : OpenClaim := { program := "ythibgmkobcbhhaa", sum := "17f1992e70a4203abeb5ab5cf27264bfebf82f326a9fb1f958391e9ef0551608", func := "pianola/pianolalaw19.PackMeets", spec := "packMeets", unfollowed := true, recurses := true, plainKeys := false, apart := false }
def PackMeetsSaid : Prop := packMeetsRow.holds Try.pinned (OpenSpec.ofChange packMeetsSpec)

/-- ITS FALSE NEIGHBOUR: 'it returns false'. Refute it at one input. -/
def packMeetsWrong : ChangeSpec := { name := "packMeets", fn := fun _ => fun
  | [d1, d2, d3] => { results := [.lit (.bool false)], args := [d1, d2, d3] }
  | _ => none }
def PackMeetsWrongFalsely : Prop := packMeetsRow.holds Try.pinned (OpenSpec.ofChange packMeetsWrong)

/-- 'pianolalaw19.PackMoves': WHATEVER THE INPUT: true; the input reads as it did. -/
def packMovesSpec : ChangeSpec := { name := "packMoves", fn := fun _ => fun
  | [d1, d2, d3] => { results := [.lit (.bool true)], args := [d1, d2, d3] }
  | _ => none }
def packMovesRow : OpenClaim := { program := "ythibgmkobcbhhaa", sum := "17f1992e70a4203abeb5ab5cf27264bfebf82f326a9fb1f958391e9ef0551608", func := "pianola/pianolalaw19.PackMoves", spec := "packMoves", unfollowed := true, recurses := true, plainKeys := false, apart := false }
def PackMovesSaid : Prop := packMovesRow.holds Try.pinned (OpenSpec.ofChange packMovesSpec)

/-- ITS FALSE NEIGHBOUR: 'it returns false'. Refute it at one input. -/
def packMovesWrong : ChangeSpec := { name := "packMoves", fn := fun _ => fun
  | [d1, d2, d3] => { results := [.lit (.bool false)], args := [d1, d2, d3] }
  | _ => none }
def PackMovesWrongFalsely : Prop := packMovesRow.holds Try.pinned (OpenSpec.ofChange packMovesWrong)

/-- 'pianolalaw19.PackNames': WHATEVER THE INPUT: true; the input reads as it did. -/
def packNamesSpec : ChangeSpec := { name := "packNames", fn := fun _ => fun
  | [] => { results := [.lit (.bool true)], args := [] }
  | _ => none }
def packNamesRow : OpenClaim := { program := "ythibgmkobcbhhaa", sum := "17f1992e70a4203abeb5ab5cf27264bfebf82f326a9fb1f958391e9ef0551608", func := "pianola/pianolalaw19.PackNames", spec := "packNames", unfollowed := true, recurses := true, plainKeys := false, apart := false }
def PackNamesSaid : Prop := packNamesRow.holds Try.pinned (OpenSpec.ofChange packNamesSpec)

/-- ITS FALSE NEIGHBOUR: 'it returns false'. Refute it at one input. -/
def packNamesWrong : ChangeSpec := { name := "packNames", fn := fun _ => fun
  | [] => { results := [.lit (.bool false)], args := [] }
  | _ => none }
def PackNamesWrongFalsely : Prop := packNamesRow.holds Try.pinned (OpenSpec.ofChange packNamesWrong)

/- THE SECOND FORM. 'bulk': how many values and letters a reading holds, each counted each time it is reached (what is shared counts as often as it is met; a slice's spare places count too). A statement '..UptoSaid' is the law's where the arguments, and the package variables that the reading takes, are together of bulk at most 1048576: NARROWER than '..Said'. Prove '..Said' where nothing that the law and all that it calls make is longer than what came in: it says more and counts as full. Else prove '..UptoSaid'. A law counts once. -/
mutual
def uptoBulk {H : Type} : DataW H → Nat
  | .lit (.string bytes) => bytes.length + 1
  | .lit _ => 1
  | .nil => 1
  | .ptr d => uptoBulk d + 1
  | .slice elems spare => uptoBulkAll elems + uptoBulkAll spare + 1
  | .agg parts => uptoBulkAll parts + 1
  | .iface _ d => uptoBulk d + 1
  | .map entries => uptoBulkEntries entries + 1
  | .held _ => 1
def uptoBulkAll {H : Type} : List (DataW H) → Nat
  | [] => 0
  | d :: r => uptoBulk d + uptoBulkAll r
def uptoBulkEntries {H : Type} : List (Lit × DataW H) → Nat
  | [] => 0
  | x :: r => uptoBulkEntry x + uptoBulkEntries r
def uptoBulkEntry {H : Type} : Lit × DataW H → Nat
  | (.string bytes, d) => bytes.length + uptoBulk d + 1
  | (_, d) => uptoBulk d + 1
 end
def uptoSmall : (H : Type) → List (DataW H) → Bool := fun _ ds => decide (uptoBulkAll ds ≤ 1048576)
def OpenSpec.upto (s : _root_.Go.ChangeSpec) : _root_.Go.OpenSpec := { _root_.Go.OpenSpec.ofChange s with cond := some uptoSmall }

/-- 'pianolalaw19.PackClashes', WHERE WHAT IT READS IS OF BULK AT MOST 1048576: true; the input reads as it did. -/
def packClashesUptoRow : OpenClaim := { program := "ythibgmkobcbhhaa", sum := "17f1992e70a4203abeb5ab5cf27264bfebf82f326a9fb1f958391e9ef0551608", func := "pianola/pianolalaw19.PackClashes", spec := "packClashes", unfollowed := true, recurses := true, plainKeys := false, apart := false, narrowed := true }
def PackClashesUptoSaid : Prop := packClashesUptoRow.holds Try.pinned (OpenSpec.upto packClashesSpec)

/-- 'pianolalaw19.PackHolds', WHERE WHAT IT READS IS OF BULK AT MOST 1048576: true; the input reads as it did. -/
def packHoldsUptoRow : OpenClaim := { program := "ythibgmkobcbhhaa", sum := "17f1992e70a4203abeb5ab5cf27264bfebf82f326a9fb1f958391e9ef0551608", func := "pianola/pianolalaw19.PackHolds", spec := "packHolds", unfollowed := true, recurses := true, plainKeys := false, apart := false, narrowed := true }
def PackHoldsUptoSaid : Prop := packHoldsUptoRow.holds Try.pinned (OpenSpec.upto packHoldsSpec)

/-- 'pianolalaw19.PackTight', WHERE WHAT IT READS IS OF BULK AT MOST 1048576: true; the input reads as it did. -/
def packTightUptoRow : OpenClaim := { program := "ythibgmkobcbhhaa", sum := "17f1992e70a4203abeb5ab5cf27264bfebf82f326a9fb1f958391e9ef0551608", func := "pianola/pianolalaw19.PackTight", spec := "packTight", unfollowed := true, recurses := true, plainKeys := false, apart := false, narrowed := true }
def PackTightUptoSaid : Prop := packTightUptoRow.holds Try.pinned (OpenSpec.upto packTightSpec)

/-- 'pianolalaw19.PackMeets', WHERE WHAT IT READS IS OF BULK AT MOST 1048576: true; the input reads as it did. -/
def packMeetsUptoRow : OpenClaim := { program := "ythibgmkobcbhhaa", sum := "17f1992e70a4203abeb5ab5cf27264bfebf82f326a9fb1f958391e9ef0551608", func := "pianola/pianolalaw19.PackMeets", spec := "packMeets", unfollowed := true, recurses := true, plainKeys := false, apart := false, narrowed := true }
def PackMeetsUptoSaid : Prop := packMeetsUptoRow.holds Try.pinned (OpenSpec.upto packMeetsSpec)

/-- 'pianolalaw19.PackMoves', WHERE WHAT IT READS IS OF BULK AT MOST 1048576: true; the input reads as it did. -/
def packMovesUptoRow : OpenClaim := { program := "ythibgmkobcbhhaa", sum := "17f1992e70a4203abeb5ab5cf27264bfebf82f326a9fb1f958391e9ef0551608", func := "pianola/pianolalaw19.PackMoves", spec := "packMoves", unfollowed := true, recurses := true, plainKeys := false, apart := false, narrowed := true }
def PackMovesUptoSaid : Prop := packMovesUptoRow.holds Try.pinned (OpenSpec.upto packMovesSpec)

/-- 'pianolalaw19.PackNames', WHERE WHAT IT READS IS OF BULK AT MOST 1048576: true; the input reads as it did. -/
def packNamesUptoRow : OpenClaim := { program := "ythibgmkobcbhhaa", sum := "17f1992e70a4203abeb5ab5cf27264bfebf82f326a9fb1f958391e9ef0551608", func := "pianola/pianolalaw19.PackNames", spec := "packNames", unfollowed := true, recurses := true, plainKeys := false, apart := false, narrowed := true }
def PackNamesUptoSaid : Prop := packNamesUptoRow.holds Try.pinned (OpenSpec.upto packNamesSpec)

end Rows
end Go.Proofs.Ythibgmkobcbhhaa
