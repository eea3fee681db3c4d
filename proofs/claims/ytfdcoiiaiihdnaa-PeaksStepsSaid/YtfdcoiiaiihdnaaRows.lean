/-
  No cell of these rows narrows 'for every input' (looked for: loops, veiled, ifaces, maps, wideKeys, modest, calm, conditions, laid).
  DERIVED. THE GIVEN ROWS OF THIS SEAT. 7 by the template 'for every input the law returns true; each argument reads behind the call as it read before'; 0 by the template 'total and deterministic' (their statements: YtfdcoiiaiihdnaaTotals.lean).
  GIVEN WITH THE SEED: the statements are not yours to turn. If you find one false, say at which input.
  Laid BY PROGRAM, IN A SANDBOX (cutbox-rows.mjs): the forced cells as the released guide's own fill.sh prints them over the translation 4e1316eef54bdde6… (all of the seat's roots in one cut). By AI agents, Wed Nov 11 2026. No macro, syntax, notation, axiom, sorry.
-/
import Derived.Test.YtfdcoiiaiihdnaaChecked
import GoSem.Claim
import GoSem.ClaimJoined
import GoSem.ClaimMapViews
import Derived.JoinedTies
import Derived.KernelRfl
namespace Go.Proofs.Ytfdcoiiaiihdnaa
/- THE CELL 'sum', in the pinned program and in every row, IS THE sha256 OF THE DUMP (.gsa) THAT YtfdcoiiaiihdnaaProg.lean LOADS. Nothing in Lean hashes anything: it is a label: what it is worth is what the hold of that sum in a sandbox is worth. -/
noncomputable def Try.pinned : Pinned := { name := "ytfdcoiiaiihdnaa", sum := "4e1316eef54bdde6007ed23b0c464c9784cd798f18d1bd0732e0c79a09faa171", checked := Try.checked }
namespace Rows
def none {H : Type} : Left H := { results := [], args := [] }

/-- 'pianolalaw18.PeaksAlong': WHATEVER THE INPUT: true; the input reads as it did. -/
def peaksAlongSpec : ChangeSpec := { name := "peaksAlong", fn := fun _ => fun
  | [d1, d2] => { results := [.lit (.bool true)], args := [d1, d2] }
  | _ => none }
def peaksAlongRow : OpenClaim := { program := "ytfdcoiiaiihdnaa", sum := "4e1316eef54bdde6007ed23b0c464c9784cd798f18d1bd0732e0c79a09faa171", func := "pianola/pianolalaw18.PeaksAlong", spec := "peaksAlong", unfollowed := true, recurses := true, apart := false }
def PeaksAlongSaid : Prop := peaksAlongRow.holds Try.pinned (OpenSpec.ofChange peaksAlongSpec)

/-- ITS FALSE NEIGHBOUR: 'it returns false'. Refute it at one input. -/
def peaksAlongWrong : ChangeSpec := { name := "peaksAlong", fn := fun _ => fun
  | [d1, d2] => { results := [.lit (.bool false)], args := [d1, d2] }
  | _ => none }
def PeaksAlongWrongFalsely : Prop := peaksAlongRow.holds Try.pinned (OpenSpec.ofChange peaksAlongWrong)

/-- 'pianolalaw18.PeaksMost': WHATEVER THE INPUT: true; the input reads as it did. -/
def peaksMostSpec : ChangeSpec := { name := "peaksMost", fn := fun _ => fun
  | [d1, d2] => { results := [.lit (.bool true)], args := [d1, d2] }
  | _ => none }
def peaksMostRow : OpenClaim := { program := "ytfdcoiiaiihdnaa", sum := "4e1316eef54bdde6007ed23b0c464c9784cd798f18d1bd0732e0c79a09faa171", func := "pianola/pianolalaw18.PeaksMost", spec := "peaksMost", unfollowed := true, recurses := true, apart := false }
def PeaksMostSaid : Prop := peaksMostRow.holds Try.pinned (OpenSpec.ofChange peaksMostSpec)

/-- ITS FALSE NEIGHBOUR: 'it returns false'. Refute it at one input. -/
def peaksMostWrong : ChangeSpec := { name := "peaksMost", fn := fun _ => fun
  | [d1, d2] => { results := [.lit (.bool false)], args := [d1, d2] }
  | _ => none }
def PeaksMostWrongFalsely : Prop := peaksMostRow.holds Try.pinned (OpenSpec.ofChange peaksMostWrong)

/-- 'pianolalaw18.PeaksHome': WHATEVER THE INPUT: true; the input reads as it did. -/
def peaksHomeSpec : ChangeSpec := { name := "peaksHome", fn := fun _ => fun
  | [d1, d2] => { results := [.lit (.bool true)], args := [d1, d2] }
  | _ => none }
def peaksHomeRow : OpenClaim := { program := "ytfdcoiiaiihdnaa", sum := "4e1316eef54bdde6007ed23b0c464c9784cd798f18d1bd0732e0c79a09faa171", func := "pianola/pianolalaw18.PeaksHome", spec := "peaksHome", unfollowed := true, recurses := true, apart := false }
def PeaksHomeSaid : Prop := peaksHomeRow.holds Try.pinned (OpenSpec.ofChange peaksHomeSpec)

/-- ITS FALSE NEIGHBOUR: 'it returns false'. Refute it at one input. -/
def peaksHomeWrong : ChangeSpec := { name := "peaksHome", fn := fun _ => fun
  | [d1, d2] => { results := [.lit (.bool false)], args := [d1, d2] }
  | _ => none }
def PeaksHomeWrongFalsely : Prop := peaksHomeRow.holds Try.pinned (OpenSpec.ofChange peaksHomeWrong)

/-- 'pianolalaw18.PeaksSteps': WHATEVER THE INPUT: true; the input reads as it did. -/
def peaksStepsSpec : ChangeSpec := { name := "peaksSteps", fn := fun _ => fun
  | [d1, d2] => { results := [.lit (.bool true)], args := [d1, d2] }
  | _ => none }
def peaksStepsRow : OpenClaim := { program := "ytfdcoiiaiihdnaa", sum := "4e1316eef54bdde6007ed23b0c464c9784cd798f18d1bd0732e0c79a09faa171", func := "pianola/pianolalaw18.PeaksSteps", spec := "peaksSteps", unfollowed := true, recurses := true, apart := false }
def PeaksStepsSaid : Prop := peaksStepsRow.holds Try.pinned (OpenSpec.ofChange peaksStepsSpec)

/-- ITS FALSE NEIGHBOUR: 'it returns false'. Refute it at one input. -/
def peaksStepsWrong : ChangeSpec := { name := "peaksSteps", fn := fun _ => fun
  | [d1, d2] => { results := [.lit (.bool false)], args := [d1, d2] }
  | _ => none }
def PeaksStepsWrongFalsely : Prop := peaksStepsRow.holds Try.pinned (OpenSpec.ofChange peaksStepsWrong)

/-- 'pianolalaw18.PeaksReached': WHATEVER THE INPUT: true; the input reads as it did. -/
def peaksReachedSpec : ChangeSpec := { name := "peaksReached", fn := fun _ => fun
  | [d1, d2] => { results := [.lit (.bool true)], args := [d1, d2] }
  | _ => none }
def peaksReachedRow : OpenClaim := { program := "ytfdcoiiaiihdnaa", sum := "4e1316eef54bdde6007ed23b0c464c9784cd798f18d1bd0732e0c79a09faa171", func := "pianola/pianolalaw18.PeaksReached", spec := "peaksReached", unfollowed := true, recurses := true, apart := false }
def PeaksReachedSaid : Prop := peaksReachedRow.holds Try.pinned (OpenSpec.ofChange peaksReachedSpec)

/-- ITS FALSE NEIGHBOUR: 'it returns false'. Refute it at one input. -/
def peaksReachedWrong : ChangeSpec := { name := "peaksReached", fn := fun _ => fun
  | [d1, d2] => { results := [.lit (.bool false)], args := [d1, d2] }
  | _ => none }
def PeaksReachedWrongFalsely : Prop := peaksReachedRow.holds Try.pinned (OpenSpec.ofChange peaksReachedWrong)

/-- 'pianolalaw18.PeaksRound': WHATEVER THE INPUT: true; the input reads as it did. -/
def peaksRoundSpec : ChangeSpec := { name := "peaksRound", fn := fun _ => fun
  | [d1, d2, d3] => { results := [.lit (.bool true)], args := [d1, d2, d3] }
  | _ => none }
def peaksRoundRow : OpenClaim := { program := "ytfdcoiiaiihdnaa", sum := "4e1316eef54bdde6007ed23b0c464c9784cd798f18d1bd0732e0c79a09faa171", func := "pianola/pianolalaw18.PeaksRound", spec := "peaksRound", unfollowed := true, recurses := true, apart := false }
def PeaksRoundSaid : Prop := peaksRoundRow.holds Try.pinned (OpenSpec.ofChange peaksRoundSpec)

/-- ITS FALSE NEIGHBOUR: 'it returns false'. Refute it at one input. -/
def peaksRoundWrong : ChangeSpec := { name := "peaksRound", fn := fun _ => fun
  | [d1, d2, d3] => { results := [.lit (.bool false)], args := [d1, d2, d3] }
  | _ => none }
def PeaksRoundWrongFalsely : Prop := peaksRoundRow.holds Try.pinned (OpenSpec.ofChange peaksRoundWrong)

/-- 'pianolalaw18.PeaksNames': WHATEVER THE INPUT: true; the input reads as it did. -/
def peaksNamesSpec : ChangeSpec := { name := "peaksNames", fn := fun _ => fun
  | [] => { results := [.lit (.bool true)], args := [] }
  | _ => none }
def peaksNamesRow : OpenClaim := { program := "ytfdcoiiaiihdnaa", sum := "4e1316eef54bdde6007ed23b0c464c9784cd798f18d1bd0732e0c79a09faa171", func := "pianola/pianolalaw18.PeaksNames", spec := "peaksNames", unfollowed := true, recurses := true, apart := false }
def PeaksNamesSaid : Prop := peaksNamesRow.holds Try.pinned (OpenSpec.ofChange peaksNamesSpec)

/-- ITS FALSE NEIGHBOUR: 'it returns false'. Refute it at one input. -/
def peaksNamesWrong : ChangeSpec := { name := "peaksNames", fn := fun _ => fun
  | [] => { results := [.lit (.bool false)], args := [] }
  | _ => none }
def PeaksNamesWrongFalsely : Prop := peaksNamesRow.holds Try.pinned (OpenSpec.ofChange peaksNamesWrong)

/- THE SECOND FORM. 'bulk': how many values and letters a reading holds, each counted each time it is reached (what is shared counts as often as it is met; a slice's spare places count too). A statement '..UptoSaid' is the law's where the arguments, and the package variables that the reading takes, are together of bulk at most 1048576: NARROWER than '..Said'. Prove '..Said' where nothing that the law and all that it calls make is longer than what came in: it says more and counts as full. Else prove '..UptoSaid'. A law counts once. -/
mutual
def uptoBulk {H : Type} : DataW H → Nat
  | .lit (.string bytes) => bytes.length + 1
  | .lit _ => 1
  | .nil => 1
  | .ptr d => uptoBulk d + 1
  | .slice elems spare => uptoBulkAll elems + uptoBulkAll spare + 1
  | .agg parts => uptoBulkAll parts + 1
  | .iface _ d => uptoBulk d + 1
  | .map entries => uptoBulkEntries entries + 1
  | .held _ => 1
def uptoBulkAll {H : Type} : List (DataW H) → Nat
  | [] => 0
  | d :: r => uptoBulk d + uptoBulkAll r
def uptoBulkEntries {H : Type} : List (Lit × DataW H) → Nat
  | [] => 0
  | x :: r => uptoBulkEntry x + uptoBulkEntries r
def uptoBulkEntry {H : Type} : Lit × DataW H → Nat
  | (.string bytes, d) => bytes.length + uptoBulk d + 1
  | (_, d) => uptoBulk d + 1
 end
def uptoSmall : (H : Type) → List (DataW H) → Bool := fun _ ds => decide (uptoBulkAll ds ≤ 1048576)
def OpenSpec.upto (s : _root_.Go.ChangeSpec) : _root_.Go.OpenSpec := { _root_.Go.OpenSpec.ofChange s with cond := some uptoSmall }

/-- 'pianolalaw18.PeaksAlong', WHERE WHAT IT READS IS OF BULK AT MOST 1048576: true; the input reads as it did. -/
def peaksAlongUptoRow : OpenClaim := { program := "ytfdcoiiaiihdnaa", sum := "4e1316eef54bdde6007ed23b0c464c9784cd798f18d1bd0732e0c79a09faa171", func := "pianola/pianolalaw18.PeaksAlong", spec := "peaksAlong", unfollowed := true, recurses := true, apart := false, narrowed := true }
def PeaksAlongUptoSaid : Prop := peaksAlongUptoRow.holds Try.pinned (OpenSpec.upto peaksAlongSpec)

/-- 'pianolalaw18.PeaksMost', WHERE WHAT IT READS IS OF BULK AT MOST 1048576: true; the input reads as it did. -/
def peaksMostUptoRow : OpenClaim := { program := "ytfdcoiiaiihdnaa", sum := "4e1316eef54bdde6007ed23b0c464c9784cd798f18d1bd0732e0c79a09faa171", func := "pianola/pianolalaw18.PeaksMost", spec := "peaksMost", unfollowed := true, recurses := true, apart := false, narrowed := true }
def PeaksMostUptoSaid : Prop := peaksMostUptoRow.holds Try.pinned (OpenSpec.upto peaksMostSpec)

/-- 'pianolalaw18.PeaksHome', WHERE WHAT IT READS IS OF BULK AT MOST 1048576: true; the input reads as it did. -/
def peaksHomeUptoRow : OpenClaim := { program := "ytfdcoiiaiihdnaa", sum := "4e1316eef54bdde6007ed23b0c464c9784cd798f18d1bd0732e0c79a09faa171", func := "pianola/pianolalaw18.PeaksHome", spec := "peaksHome", unfollowed := true, recurses := true, apart := false, narrowed := true }
def PeaksHomeUptoSaid : Prop := peaksHomeUptoRow.holds Try.pinned (OpenSpec.upto peaksHomeSpec)

/-- 'pianolalaw18.PeaksSteps', WHERE WHAT IT READS IS OF BULK AT MOST 1048576: true; the input reads as it did. -/
def peaksStepsUptoRow : OpenClaim := { program := "ytfdcoiiaiihdnaa", sum := "4e1316eef54bdde6007ed23b0c464c9784cd798f18d1bd0732e0c79a09faa171", func := "pianola/pianolalaw18.PeaksSteps", spec := "peaksSteps", unfollowed := true, recurses := true, apart := false, narrowed := true }
def PeaksStepsUptoSaid : Prop := peaksStepsUptoRow.holds Try.pinned (OpenSpec.upto peaksStepsSpec)

/-- 'pianolalaw18.PeaksReached', WHERE WHAT IT READS IS OF BULK AT MOST 1048576: true; the input reads as it did. -/
def peaksReachedUptoRow : OpenClaim := { program := "ytfdcoiiaiihdnaa", sum := "4e1316eef54bdde6007ed23b0c464c9784cd798f18d1bd0732e0c79a09faa171", func := "pianola/pianolalaw18.PeaksReached", spec := "peaksReached", unfollowed := true, recurses := true, apart := false, narrowed := true }
def PeaksReachedUptoSaid : Prop := peaksReachedUptoRow.holds Try.pinned (OpenSpec.upto peaksReachedSpec)

/-- 'pianolalaw18.PeaksRound', WHERE WHAT IT READS IS OF BULK AT MOST 1048576: true; the input reads as it did. -/
def peaksRoundUptoRow : OpenClaim := { program := "ytfdcoiiaiihdnaa", sum := "4e1316eef54bdde6007ed23b0c464c9784cd798f18d1bd0732e0c79a09faa171", func := "pianola/pianolalaw18.PeaksRound", spec := "peaksRound", unfollowed := true, recurses := true, apart := false, narrowed := true }
def PeaksRoundUptoSaid : Prop := peaksRoundUptoRow.holds Try.pinned (OpenSpec.upto peaksRoundSpec)

/-- 'pianolalaw18.PeaksNames', WHERE WHAT IT READS IS OF BULK AT MOST 1048576: true; the input reads as it did. -/
def peaksNamesUptoRow : OpenClaim := { program := "ytfdcoiiaiihdnaa", sum := "4e1316eef54bdde6007ed23b0c464c9784cd798f18d1bd0732e0c79a09faa171", func := "pianola/pianolalaw18.PeaksNames", spec := "peaksNames", unfollowed := true, recurses := true, apart := false, narrowed := true }
def PeaksNamesUptoSaid : Prop := peaksNamesUptoRow.holds Try.pinned (OpenSpec.upto peaksNamesSpec)

end Rows
end Go.Proofs.Ytfdcoiiaiihdnaa
