/-
  NARROWER THAN 'FOR EVERY INPUT', by the rows' own cells (each row's printed sentence says how): NestChecks: loops · NestMeasures: loops · NestExpands: loops · NestRanges: loops · NestJoins: loops · NestRound: loops · NestAgrees: loops.
  DERIVED. THE GIVEN ROWS OF THIS SEAT. 11 by the template 'for every input the law returns true; each argument reads behind the call as it read before'; 0 by the template 'total and deterministic' (their statements: YtnfmbjeicloemaaTotals.lean).
  GIVEN WITH THE SEED: the statements are not yours to turn. If you find one false, say at which input.
  Laid BY PROGRAM, IN A SANDBOX (cutbox-rows.mjs): the forced cells as the released guide's own fill.sh prints them over the translation ccccb2a2524f19de… (all of the seat's roots in one cut). By AI agents, Wed Nov 11 2026. No macro, syntax, notation, axiom, sorry.
-/
import Derived.Test.YtnfmbjeicloemaaChecked
import GoSem.Claim
import GoSem.ClaimJoined
import GoSem.ClaimMapViews
import Derived.JoinedTies
import Derived.KernelRfl
namespace Go.Proofs.Ytnfmbjeicloemaa
/- THE CELL 'sum', in the pinned program and in every row, IS THE sha256 OF THE DUMP (.gsa) THAT YtnfmbjeicloemaaProg.lean LOADS. Nothing in Lean hashes anything: it is a label: what it is worth is what the hold of that sum in a sandbox is worth. -/
noncomputable def Try.pinned : Pinned := { name := "ytnfmbjeicloemaa", sum := "ccccb2a2524f19ded53090246b837873f695b83147167af2892a939411adfe7c", checked := Try.checked }
namespace Rows
def none {H : Type} : Left H := { results := [], args := [] }

/-- 'pianolalaw16.NestChecks': WHATEVER THE INPUT: true; the input reads as it did. -/
def nestChecksSpec : ChangeSpec := { name := "nestChecks", fn := fun _ => fun
  | [d] => { results := [.lit (.bool true)], args := [d] }
  | _ => none }
def nestChecksRow : OpenClaim := { program := "ytnfmbjeicloemaa", sum := "ccccb2a2524f19ded53090246b837873f695b83147167af2892a939411adfe7c", func := "pianola/pianolalaw16.NestChecks", spec := "nestChecks", unfollowed := true, recurses := true, loops := true, apart := false }
def NestChecksSaid : Prop := nestChecksRow.holds Try.pinned (OpenSpec.ofChange nestChecksSpec)

/-- ITS FALSE NEIGHBOUR: 'it returns false'. Refute it at one input. -/
def nestChecksWrong : ChangeSpec := { name := "nestChecks", fn := fun _ => fun
  | [d] => { results := [.lit (.bool false)], args := [d] }
  | _ => none }
def NestChecksWrongFalsely : Prop := nestChecksRow.holds Try.pinned (OpenSpec.ofChange nestChecksWrong)

/-- 'pianolalaw16.NestMeasures': WHATEVER THE INPUT: true; the input reads as it did. -/
def nestMeasuresSpec : ChangeSpec := { name := "nestMeasures", fn := fun _ => fun
  | [d] => { results := [.lit (.bool true)], args := [d] }
  | _ => none }
def nestMeasuresRow : OpenClaim := { program := "ytnfmbjeicloemaa", sum := "ccccb2a2524f19ded53090246b837873f695b83147167af2892a939411adfe7c", func := "pianola/pianolalaw16.NestMeasures", spec := "nestMeasures", unfollowed := true, recurses := true, loops := true, apart := false }
def NestMeasuresSaid : Prop := nestMeasuresRow.holds Try.pinned (OpenSpec.ofChange nestMeasuresSpec)

/-- ITS FALSE NEIGHBOUR: 'it returns false'. Refute it at one input. -/
def nestMeasuresWrong : ChangeSpec := { name := "nestMeasures", fn := fun _ => fun
  | [d] => { results := [.lit (.bool false)], args := [d] }
  | _ => none }
def NestMeasuresWrongFalsely : Prop := nestMeasuresRow.holds Try.pinned (OpenSpec.ofChange nestMeasuresWrong)

/-- 'pianolalaw16.NestExpands': WHATEVER THE INPUT: true; the input reads as it did. -/
def nestExpandsSpec : ChangeSpec := { name := "nestExpands", fn := fun _ => fun
  | [d] => { results := [.lit (.bool true)], args := [d] }
  | _ => none }
def nestExpandsRow : OpenClaim := { program := "ytnfmbjeicloemaa", sum := "ccccb2a2524f19ded53090246b837873f695b83147167af2892a939411adfe7c", func := "pianola/pianolalaw16.NestExpands", spec := "nestExpands", unfollowed := true, recurses := true, loops := true, apart := false }
def NestExpandsSaid : Prop := nestExpandsRow.holds Try.pinned (OpenSpec.ofChange nestExpandsSpec)

/-- ITS FALSE NEIGHBOUR: 'it returns false'. Refute it at one input. -/
def nestExpandsWrong : ChangeSpec := { name := "nestExpands", fn := fun _ => fun
  | [d] => { results := [.lit (.bool false)], args := [d] }
  | _ => none }
def NestExpandsWrongFalsely : Prop := nestExpandsRow.holds Try.pinned (OpenSpec.ofChange nestExpandsWrong)

/-- 'pianolalaw16.NestRanges': WHATEVER THE INPUT: true; the input reads as it did. -/
def nestRangesSpec : ChangeSpec := { name := "nestRanges", fn := fun _ => fun
  | [d1, d2] => { results := [.lit (.bool true)], args := [d1, d2] }
  | _ => none }
def nestRangesRow : OpenClaim := { program := "ytnfmbjeicloemaa", sum := "ccccb2a2524f19ded53090246b837873f695b83147167af2892a939411adfe7c", func := "pianola/pianolalaw16.NestRanges", spec := "nestRanges", unfollowed := true, recurses := true, loops := true, apart := false }
def NestRangesSaid : Prop := nestRangesRow.holds Try.pinned (OpenSpec.ofChange nestRangesSpec)

/-- ITS FALSE NEIGHBOUR: 'it returns false'. Refute it at one input. -/
def nestRangesWrong : ChangeSpec := { name := "nestRanges", fn := fun _ => fun
  | [d1, d2] => { results := [.lit (.bool false)], args := [d1, d2] }
  | _ => none }
def NestRangesWrongFalsely : Prop := nestRangesRow.holds Try.pinned (OpenSpec.ofChange nestRangesWrong)

/-- 'pianolalaw16.NestRuns': WHATEVER THE INPUT: true; the input reads as it did. -/
def nestRunsSpec : ChangeSpec := { name := "nestRuns", fn := fun _ => fun
  | [d] => { results := [.lit (.bool true)], args := [d] }
  | _ => none }
def nestRunsRow : OpenClaim := { program := "ytnfmbjeicloemaa", sum := "ccccb2a2524f19ded53090246b837873f695b83147167af2892a939411adfe7c", func := "pianola/pianolalaw16.NestRuns", spec := "nestRuns", unfollowed := true, recurses := true, apart := false }
def NestRunsSaid : Prop := nestRunsRow.holds Try.pinned (OpenSpec.ofChange nestRunsSpec)

/-- ITS FALSE NEIGHBOUR: 'it returns false'. Refute it at one input. -/
def nestRunsWrong : ChangeSpec := { name := "nestRuns", fn := fun _ => fun
  | [d] => { results := [.lit (.bool false)], args := [d] }
  | _ => none }
def NestRunsWrongFalsely : Prop := nestRunsRow.holds Try.pinned (OpenSpec.ofChange nestRunsWrong)

/-- 'pianolalaw16.NestFlats': WHATEVER THE INPUT: true; the input reads as it did. -/
def nestFlatsSpec : ChangeSpec := { name := "nestFlats", fn := fun _ => fun
  | [d] => { results := [.lit (.bool true)], args := [d] }
  | _ => none }
def nestFlatsRow : OpenClaim := { program := "ytnfmbjeicloemaa", sum := "ccccb2a2524f19ded53090246b837873f695b83147167af2892a939411adfe7c", func := "pianola/pianolalaw16.NestFlats", spec := "nestFlats", unfollowed := true, recurses := true, apart := false }
def NestFlatsSaid : Prop := nestFlatsRow.holds Try.pinned (OpenSpec.ofChange nestFlatsSpec)

/-- ITS FALSE NEIGHBOUR: 'it returns false'. Refute it at one input. -/
def nestFlatsWrong : ChangeSpec := { name := "nestFlats", fn := fun _ => fun
  | [d] => { results := [.lit (.bool false)], args := [d] }
  | _ => none }
def NestFlatsWrongFalsely : Prop := nestFlatsRow.holds Try.pinned (OpenSpec.ofChange nestFlatsWrong)

/-- 'pianolalaw16.NestBack': WHATEVER THE INPUT: true; the input reads as it did. -/
def nestBackSpec : ChangeSpec := { name := "nestBack", fn := fun _ => fun
  | [d] => { results := [.lit (.bool true)], args := [d] }
  | _ => none }
def nestBackRow : OpenClaim := { program := "ytnfmbjeicloemaa", sum := "ccccb2a2524f19ded53090246b837873f695b83147167af2892a939411adfe7c", func := "pianola/pianolalaw16.NestBack", spec := "nestBack", unfollowed := true, recurses := true, apart := false }
def NestBackSaid : Prop := nestBackRow.holds Try.pinned (OpenSpec.ofChange nestBackSpec)

/-- ITS FALSE NEIGHBOUR: 'it returns false'. Refute it at one input. -/
def nestBackWrong : ChangeSpec := { name := "nestBack", fn := fun _ => fun
  | [d] => { results := [.lit (.bool false)], args := [d] }
  | _ => none }
def NestBackWrongFalsely : Prop := nestBackRow.holds Try.pinned (OpenSpec.ofChange nestBackWrong)

/-- 'pianolalaw16.NestJoins': WHATEVER THE INPUT: true; the input reads as it did. -/
def nestJoinsSpec : ChangeSpec := { name := "nestJoins", fn := fun _ => fun
  | [d1, d2] => { results := [.lit (.bool true)], args := [d1, d2] }
  | _ => none }
def nestJoinsRow : OpenClaim := { program := "ytnfmbjeicloemaa", sum := "ccccb2a2524f19ded53090246b837873f695b83147167af2892a939411adfe7c", func := "pianola/pianolalaw16.NestJoins", spec := "nestJoins", unfollowed := true, recurses := true, loops := true, apart := false }
def NestJoinsSaid : Prop := nestJoinsRow.holds Try.pinned (OpenSpec.ofChange nestJoinsSpec)

/-- ITS FALSE NEIGHBOUR: 'it returns false'. Refute it at one input. -/
def nestJoinsWrong : ChangeSpec := { name := "nestJoins", fn := fun _ => fun
  | [d1, d2] => { results := [.lit (.bool false)], args := [d1, d2] }
  | _ => none }
def NestJoinsWrongFalsely : Prop := nestJoinsRow.holds Try.pinned (OpenSpec.ofChange nestJoinsWrong)

/-- 'pianolalaw16.NestRound': WHATEVER THE INPUT: true; the input reads as it did. -/
def nestRoundSpec : ChangeSpec := { name := "nestRound", fn := fun _ => fun
  | [d1, d2] => { results := [.lit (.bool true)], args := [d1, d2] }
  | _ => none }
def nestRoundRow : OpenClaim := { program := "ytnfmbjeicloemaa", sum := "ccccb2a2524f19ded53090246b837873f695b83147167af2892a939411adfe7c", func := "pianola/pianolalaw16.NestRound", spec := "nestRound", unfollowed := true, recurses := true, loops := true, apart := false }
def NestRoundSaid : Prop := nestRoundRow.holds Try.pinned (OpenSpec.ofChange nestRoundSpec)

/-- ITS FALSE NEIGHBOUR: 'it returns false'. Refute it at one input. -/
def nestRoundWrong : ChangeSpec := { name := "nestRound", fn := fun _ => fun
  | [d1, d2] => { results := [.lit (.bool false)], args := [d1, d2] }
  | _ => none }
def NestRoundWrongFalsely : Prop := nestRoundRow.holds Try.pinned (OpenSpec.ofChange nestRoundWrong)

/-- 'pianolalaw16.NestAgrees': WHATEVER THE INPUT: true; the input reads as it did. -/
def nestAgreesSpec : ChangeSpec := { name := "nestAgrees", fn := fun _ => fun
  | [d] => { results := [.lit (.bool true)], args := [d] }
  | _ => none }
def nestAgreesRow : OpenClaim := { program := "ytnfmbjeicloemaa", sum := "ccccb2a2524f19ded53090246b837873f695b83147167af2892a939411adfe7c", func := "pianola/pianolalaw16.NestAgrees", spec := "nestAgrees", unfollowed := true, recurses := true, loops := true, apart := false }
def NestAgreesSaid : Prop := nestAgreesRow.holds Try.pinned (OpenSpec.ofChange nestAgreesSpec)

/-- ITS FALSE NEIGHBOUR: 'it returns false'. Refute it at one input. -/
def nestAgreesWrong : ChangeSpec := { name := "nestAgrees", fn := fun _ => fun
  | [d] => { results := [.lit (.bool false)], args := [d] }
  | _ => none }
def NestAgreesWrongFalsely : Prop := nestAgreesRow.holds Try.pinned (OpenSpec.ofChange nestAgreesWrong)

/-- 'pianolalaw16.NestNames': WHATEVER THE INPUT: true; the input reads as it did. -/
def nestNamesSpec : ChangeSpec := { name := "nestNames", fn := fun _ => fun
  | [] => { results := [.lit (.bool true)], args := [] }
  | _ => none }
def nestNamesRow : OpenClaim := { program := "ytnfmbjeicloemaa", sum := "ccccb2a2524f19ded53090246b837873f695b83147167af2892a939411adfe7c", func := "pianola/pianolalaw16.NestNames", spec := "nestNames", unfollowed := true, recurses := true, apart := false }
def NestNamesSaid : Prop := nestNamesRow.holds Try.pinned (OpenSpec.ofChange nestNamesSpec)

/-- ITS FALSE NEIGHBOUR: 'it returns false'. Refute it at one input. -/
def nestNamesWrong : ChangeSpec := { name := "nestNames", fn := fun _ => fun
  | [] => { results := [.lit (.bool false)], args := [] }
  | _ => none }
def NestNamesWrongFalsely : Prop := nestNamesRow.holds Try.pinned (OpenSpec.ofChange nestNamesWrong)

/- THE SECOND FORM. 'bulk': how many values and letters a reading holds, each counted each time it is reached (what is shared counts as often as it is met; a slice's spare places count too). A statement '..UptoSaid' is the law's where the arguments, and the package variables that the reading takes, are together of bulk at most 1048576: NARROWER than '..Said'. Prove '..Said' where nothing that the law and all that it calls make is longer than what came in: it says more and counts as full. Else prove '..UptoSaid'. A law counts once. -/
mutual
def uptoBulk {H : Type} : DataW H → Nat
  | .lit (.string bytes) => bytes.length + 1
  | .lit _ => 1
  | .nil => 1
  | .ptr d => uptoBulk d + 1
  | .slice elems spare => uptoBulkAll elems + uptoBulkAll spare + 1
  | .agg parts => uptoBulkAll parts + 1
  | .iface _ d => uptoBulk d + 1
  | .map entries => uptoBulkEntries entries + 1
  | .held _ => 1
def uptoBulkAll {H : Type} : List (DataW H) → Nat
  | [] => 0
  | d :: r => uptoBulk d + uptoBulkAll r
def uptoBulkEntries {H : Type} : List (Lit × DataW H) → Nat
  | [] => 0
  | x :: r => uptoBulkEntry x + uptoBulkEntries r
def uptoBulkEntry {H : Type} : Lit × DataW H → Nat
  | (.string bytes, d) => bytes.length + uptoBulk d + 1
  | (_, d) => uptoBulk d + 1
 end
def uptoSmall : (H : Type) → List (DataW H) → Bool := fun _ ds => decide (uptoBulkAll ds ≤ 1048576)
def OpenSpec.upto (s : _root_.Go.ChangeSpec) : _root_.Go.OpenSpec := { _root_.Go.OpenSpec.ofChange s with cond := some uptoSmall }

/-- 'pianolalaw16.NestChecks', WHERE WHAT IT READS IS OF BULK AT MOST 1048576: true; the input reads as it did. -/
def nestChecksUptoRow : OpenClaim := { program := "ytnfmbjeicloemaa", sum := "ccccb2a2524f19ded53090246b837873f695b83147167af2892a939411adfe7c", func := "pianola/pianolalaw16.NestChecks", spec := "nestChecks", unfollowed := true, recurses := true, loops := true, apart := false, narrowed := true }
def NestChecksUptoSaid : Prop := nestChecksUptoRow.holds Try.pinned (OpenSpec.upto nestChecksSpec)

/-- 'pianolalaw16.NestMeasures', WHERE WHAT IT READS IS OF BULK AT MOST 1048576: true; the input reads as it did. -/
def nestMeasuresUptoRow : OpenClaim := { program := "ytnfmbjeicloemaa", sum := "ccccb2a2524f19ded53090246b837873f695b83147167af2892a939411adfe7c", func := "pianola/pianolalaw16.NestMeasures", spec := "nestMeasures", unfollowed := true, recurses := true, loops := true, apart := false, narrowed := true }
def NestMeasuresUptoSaid : Prop := nestMeasuresUptoRow.holds Try.pinned (OpenSpec.upto nestMeasuresSpec)

/-- 'pianolalaw16.NestExpands', WHERE WHAT IT READS IS OF BULK AT MOST 1048576: true; the input reads as it did. -/
def nestExpandsUptoRow : OpenClaim := { program := "ytnfmbjeicloemaa", sum := "ccccb2a2524f19ded53090246b837873f695b83147167af2892a939411adfe7c", func := "pianola/pianolalaw16.NestExpands", spec := "nestExpands", unfollowed := true, recurses := true, loops := true, apart := false, narrowed := true }
def NestExpandsUptoSaid : Prop := nestExpandsUptoRow.holds Try.pinned (OpenSpec.upto nestExpandsSpec)

/-- 'pianolalaw16.NestRanges', WHERE WHAT IT READS IS OF BULK AT MOST 1048576: true; the input reads as it did. -/
def nestRangesUptoRow : OpenClaim := { program := "ytnfmbjeicloemaa", sum := "ccccb2a2524f19ded53090246b837873f695b83147167af2892a939411adfe7c", func := "pianola/pianolalaw16.NestRanges", spec := "nestRanges", unfollowed := true, recurses := true, loops := true, apart := false, narrowed := true }
def NestRangesUptoSaid : Prop := nestRangesUptoRow.holds Try.pinned (OpenSpec.upto nestRangesSpec)

/-- 'pianolalaw16.NestRuns', WHERE WHAT IT READS IS OF BULK AT MOST 1048576: true; the input reads as it did. -/
def nestRunsUptoRow : OpenClaim := { program := "ytnfmbjeicloemaa", sum := "ccccb2a2524f19ded53090246b837873f695b83147167af2892a939411adfe7c", func := "pianola/pianolalaw16.NestRuns", spec := "nestRuns", unfollowed := true, recurses := true, apart := false, narrowed := true }
def NestRunsUptoSaid : Prop := nestRunsUptoRow.holds Try.pinned (OpenSpec.upto nestRunsSpec)

/-- 'pianolalaw16.NestFlats', WHERE WHAT IT READS IS OF BULK AT MOST 1048576: true; the input reads as it did. -/
def nestFlatsUptoRow : OpenClaim := { program := "ytnfmbjeicloemaa", sum := "ccccb2a2524f19ded53090246b837873f695b83147167af2892a939411adfe7c", func := "pianola/pianolalaw16.NestFlats", spec := "nestFlats", unfollowed := true, recurses := true, apart := false, narrowed := true }
def NestFlatsUptoSaid : Prop := nestFlatsUptoRow.holds Try.pinned (OpenSpec.upto nestFlatsSpec)

/-- 'pianolalaw16.NestBack', WHERE WHAT IT READS IS OF BULK AT MOST 1048576: true; the input reads as it did. -/
def nestBackUptoRow : OpenClaim := { program := "ytnfmbjeicloemaa", sum := "ccccb2a2524f19ded53090246b837873f695b83147167af2892a939411adfe7c", func := "pianola/pianolalaw16.NestBack", spec := "nestBack", unfollowed := true, recurses := true, apart := false, narrowed := true }
def NestBackUptoSaid : Prop := nestBackUptoRow.holds Try.pinned (OpenSpec.upto nestBackSpec)

/-- 'pianolalaw16.NestJoins', WHERE WHAT IT READS IS OF BULK AT MOST 1048576: true; the input reads as it did. -/
def nestJoinsUptoRow : OpenClaim := { program := "ytnfmbjeicloemaa", sum := "ccccb2a2524f19ded53090246b837873f695b83147167af2892a939411adfe7c", func := "pianola/pianolalaw16.NestJoins", spec := "nestJoins", unfollowed := true, recurses := true, loops := true, apart := false, narrowed := true }
def NestJoinsUptoSaid : Prop := nestJoinsUptoRow.holds Try.pinned (OpenSpec.upto nestJoinsSpec)

/-- 'pianolalaw16.NestRound', WHERE WHAT IT READS IS OF BULK AT MOST 1048576: true; the input reads as it did. -/
def nestRoundUptoRow : OpenClaim := { program := "ytnfmbjeicloemaa", sum := "ccccb2a2524f19ded53090246b837873f695b83147167af2892a939411adfe7c", func := "pianola/pianolalaw16.NestRound", spec := "nestRound", unfollowed := true, recurses := true, loops := true, apart := false, narrowed := true }
def NestRoundUptoSaid : Prop := nestRoundUptoRow.holds Try.pinned (OpenSpec.upto nestRoundSpec)

/-- 'pianolalaw16.NestAgrees', WHERE WHAT IT READS IS OF BULK AT MOST 1048576: true; the input reads as it did. -/
def nestAgreesUptoRow : OpenClaim := { program := "ytnfmbjeicloemaa", sum := "ccccb2a2524f19ded53090246b837873f695b83147167af2892a939411adfe7c", func := "pianola/pianolalaw16.NestAgrees", spec := "nestAgrees", unfollowed := true, recurses := true, loops := true, apart := false, narrowed := true }
def NestAgreesUptoSaid : Prop := nestAgreesUptoRow.holds Try.pinned (OpenSpec.upto nestAgreesSpec)

/-- 'pianolalaw16.NestNames', WHERE WHAT IT READS IS OF BULK AT MOST 1048576: true; the input reads as it did. -/
def nestNamesUptoRow : OpenClaim := { program := "ytnfmbjeicloemaa", sum := "ccccb2a2524f19ded53090246b837873f695b83147167af2892a939411adfe7c", func := "pianola/pianolalaw16.NestNames", spec := "nestNames", unfollowed := true, recurses := true, apart := false, narrowed := true }
def NestNamesUptoSaid : Prop := nestNamesUptoRow.holds Try.pinned (OpenSpec.upto nestNamesSpec)

end Rows
end Go.Proofs.Ytnfmbjeicloemaa
