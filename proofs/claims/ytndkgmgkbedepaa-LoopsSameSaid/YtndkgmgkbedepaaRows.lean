/-
  NARROWER THAN 'FOR EVERY INPUT', by the rows' own cells (each row's printed sentence says how): LoopsFolds: loops · LoopsSame: loops.
  DERIVED. THE GIVEN ROWS OF THIS SEAT. 6 by the template 'for every input the law returns true; each argument reads behind the call as it read before'; 0 by the template 'total and deterministic' (their statements: YtndkgmgkbedepaaTotals.lean).
  GIVEN WITH THE SEED: the statements are not yours to turn. If you find one false, say at which input.
  Laid BY PROGRAM, IN A SANDBOX (cutbox-rows.mjs): the forced cells as the released guide's own fill.sh prints them over the translation d237873b6fda9c51… (all of the seat's roots in one cut). By AI agents, Wed Nov 11 2026. No macro, syntax, notation, axiom, sorry.
-/
import Derived.Test.YtndkgmgkbedepaaChecked
import GoSem.Claim
import GoSem.ClaimJoined
import GoSem.ClaimMapViews
import Derived.JoinedTies
import Derived.KernelRfl
namespace Go.Proofs.Ytndkgmgkbedepaa
/- THE CELL 'sum', in the pinned program and in every row, IS THE sha256 OF THE DUMP (.gsa) THAT YtndkgmgkbedepaaProg.lean LOADS. Nothing in Lean hashes anything: it is a label: what it is worth is what the hold of that sum in a sandbox is worth. -/
noncomputable def Try.pinned : Pinned := { name := "ytndkgmgkbedepaa", sum := "d237873b6fda9c519bc06946df99ae3d33537953b83dd9a7ce0d1dcdb7ba4696", checked := Try.checked }
namespace Rows
def none {H : Type} : Left H := { results := [], args := [] }

/-- 'pianolalaw17.LoopsFolds': WHATEVER THE INPUT: true; the input reads as it did. -/
def loopsFoldsSpec : ChangeSpec := { name := "loopsFolds", fn := fun _ => fun
  | [d1, d2] => { results := [.lit (.bool true)], args := [d1, d2] }
  | _ => none }
def loopsFoldsRow : OpenClaim := { program := "ytndkgmgkbedepaa", sum := "d237873b6fda9c519bc06946df99ae3d33537953b83dd9a7ce0d1dcdb7ba4696", func := "pianola/pianolalaw17.LoopsFolds", spec := "loopsFolds", recurses := true, loops := true, plainKeys := false, apart := false }
def LoopsFoldsSaid : Prop := loopsFoldsRow.holds Try.pinned (OpenSpec.ofChange loopsFoldsSpec)

/-- ITS FALSE NEIGHBOUR: 'it returns false'. Refute it at one input. -/
def loopsFoldsWrong : ChangeSpec := { name := "loopsFolds", fn := fun _ => fun
  | [d1, d2] => { results := [.lit (.bool false)], args := [d1, d2] }
  | _ => none }
def LoopsFoldsWrongFalsely : Prop := loopsFoldsRow.holds Try.pinned (OpenSpec.ofChange loopsFoldsWrong)

/-- 'pianolalaw17.LoopsCompresses': WHATEVER THE INPUT: true; the input reads as it did. -/
def loopsCompressesSpec : ChangeSpec := { name := "loopsCompresses", fn := fun _ => fun
  | [d] => { results := [.lit (.bool true)], args := [d] }
  | _ => none }
def loopsCompressesRow : OpenClaim := { program := "ytndkgmgkbedepaa", sum := "d237873b6fda9c519bc06946df99ae3d33537953b83dd9a7ce0d1dcdb7ba4696", func := "pianola/pianolalaw17.LoopsCompresses", spec := "loopsCompresses", recurses := true, plainKeys := false, apart := false }
def LoopsCompressesSaid : Prop := loopsCompressesRow.holds Try.pinned (OpenSpec.ofChange loopsCompressesSpec)

/-- ITS FALSE NEIGHBOUR: 'it returns false'. Refute it at one input. -/
def loopsCompressesWrong : ChangeSpec := { name := "loopsCompresses", fn := fun _ => fun
  | [d] => { results := [.lit (.bool false)], args := [d] }
  | _ => none }
def LoopsCompressesWrongFalsely : Prop := loopsCompressesRow.holds Try.pinned (OpenSpec.ofChange loopsCompressesWrong)

/-- 'pianolalaw17.LoopsRound': WHATEVER THE INPUT: true; the input reads as it did. -/
def loopsRoundSpec : ChangeSpec := { name := "loopsRound", fn := fun _ => fun
  | [d] => { results := [.lit (.bool true)], args := [d] }
  | _ => none }
def loopsRoundRow : OpenClaim := { program := "ytndkgmgkbedepaa", sum := "d237873b6fda9c519bc06946df99ae3d33537953b83dd9a7ce0d1dcdb7ba4696", func := "pianola/pianolalaw17.LoopsRound", spec := "loopsRound", recurses := true, plainKeys := false, apart := false }
def LoopsRoundSaid : Prop := loopsRoundRow.holds Try.pinned (OpenSpec.ofChange loopsRoundSpec)

/-- ITS FALSE NEIGHBOUR: 'it returns false'. Refute it at one input. -/
def loopsRoundWrong : ChangeSpec := { name := "loopsRound", fn := fun _ => fun
  | [d] => { results := [.lit (.bool false)], args := [d] }
  | _ => none }
def LoopsRoundWrongFalsely : Prop := loopsRoundRow.holds Try.pinned (OpenSpec.ofChange loopsRoundWrong)

/-- 'pianolalaw17.LoopsNames': WHATEVER THE INPUT: true; the input reads as it did. -/
def loopsNamesSpec : ChangeSpec := { name := "loopsNames", fn := fun _ => fun
  | [] => { results := [.lit (.bool true)], args := [] }
  | _ => none }
def loopsNamesRow : OpenClaim := { program := "ytndkgmgkbedepaa", sum := "d237873b6fda9c519bc06946df99ae3d33537953b83dd9a7ce0d1dcdb7ba4696", func := "pianola/pianolalaw17.LoopsNames", spec := "loopsNames", recurses := true, plainKeys := false, apart := false }
def LoopsNamesSaid : Prop := loopsNamesRow.holds Try.pinned (OpenSpec.ofChange loopsNamesSpec)

/-- ITS FALSE NEIGHBOUR: 'it returns false'. Refute it at one input. -/
def loopsNamesWrong : ChangeSpec := { name := "loopsNames", fn := fun _ => fun
  | [] => { results := [.lit (.bool false)], args := [] }
  | _ => none }
def LoopsNamesWrongFalsely : Prop := loopsNamesRow.holds Try.pinned (OpenSpec.ofChange loopsNamesWrong)

/-- 'pianolalaw17.LoopsSame': WHATEVER THE INPUT: true; the input reads as it did. -/
def loopsSameSpec : ChangeSpec := { name := "loopsSame", fn := fun _ => fun
  | [d1, d2] => { results := [.lit (.bool true)], args := [d1, d2] }
  | _ => none }
def loopsSameRow : OpenClaim := { program := "ytndkgmgkbedepaa", sum := "d237873b6fda9c519bc06946df99ae3d33537953b83dd9a7ce0d1dcdb7ba4696", func := "pianola/pianolalaw17.LoopsSame", spec := "loopsSame", unfollowed := true, recurses := true, loops := true, plainKeys := false, apart := false }
def LoopsSameSaid : Prop := loopsSameRow.holds Try.pinned (OpenSpec.ofChange loopsSameSpec)

/-- ITS FALSE NEIGHBOUR: 'it returns false'. Refute it at one input. -/
def loopsSameWrong : ChangeSpec := { name := "loopsSame", fn := fun _ => fun
  | [d1, d2] => { results := [.lit (.bool false)], args := [d1, d2] }
  | _ => none }
def LoopsSameWrongFalsely : Prop := loopsSameRow.holds Try.pinned (OpenSpec.ofChange loopsSameWrong)

/-- 'pianolalaw17.LoopsExpands': WHATEVER THE INPUT: true; the input reads as it did. -/
def loopsExpandsSpec : ChangeSpec := { name := "loopsExpands", fn := fun _ => fun
  | [d1, d2] => { results := [.lit (.bool true)], args := [d1, d2] }
  | _ => none }
def loopsExpandsRow : OpenClaim := { program := "ytndkgmgkbedepaa", sum := "d237873b6fda9c519bc06946df99ae3d33537953b83dd9a7ce0d1dcdb7ba4696", func := "pianola/pianolalaw17.LoopsExpands", spec := "loopsExpands", unfollowed := true, recurses := true, plainKeys := false, apart := false }
def LoopsExpandsSaid : Prop := loopsExpandsRow.holds Try.pinned (OpenSpec.ofChange loopsExpandsSpec)

/-- ITS FALSE NEIGHBOUR: 'it returns false'. Refute it at one input. -/
def loopsExpandsWrong : ChangeSpec := { name := "loopsExpands", fn := fun _ => fun
  | [d1, d2] => { results := [.lit (.bool false)], args := [d1, d2] }
  | _ => none }
def LoopsExpandsWrongFalsely : Prop := loopsExpandsRow.holds Try.pinned (OpenSpec.ofChange loopsExpandsWrong)

/- THE SECOND FORM. 'bulk': how many values and letters a reading holds, each counted each time it is reached (what is shared counts as often as it is met; a slice's spare places count too). A statement '..UptoSaid' is the law's where the arguments, and the package variables that the reading takes, are together of bulk at most 1048576: NARROWER than '..Said'. Prove '..Said' where nothing that the law and all that it calls make is longer than what came in: it says more and counts as full. Else prove '..UptoSaid'. A law counts once. -/
mutual
def uptoBulk {H : Type} : DataW H → Nat
  | .lit (.string bytes) => bytes.length + 1
  | .lit _ => 1
  | .nil => 1
  | .ptr d => uptoBulk d + 1
  | .slice elems spare => uptoBulkAll elems + uptoBulkAll spare + 1
  | .agg parts => uptoBulkAll parts + 1
  | .iface _ d => uptoBulk d + 1
  | .map entries => uptoBulkEntries entries + 1
  | .held _ => 1
def uptoBulkAll {H : Type} : List (DataW H) → Nat
  | [] => 0
  | d :: r => uptoBulk d + uptoBulkAll r
def uptoBulkEntries {H : Type} : List (Lit × DataW H) → Nat
  | [] => 0
  | x :: r => uptoBulkEntry x + uptoBulkEntries r
def uptoBulkEntry {H : Type} : Lit × DataW H → Nat
  | (.string bytes, d) => bytes.length + uptoBulk d + 1
  | (_, d) => uptoBulk d + 1
 end
def uptoSmall : (H : Type) → List (DataW H) → Bool := fun _ ds => decide (uptoBulkAll ds ≤ 1048576)
def OpenSpec.upto (s : _root_.Go.ChangeSpec) : _root_.Go.OpenSpec := { _root_.Go.OpenSpec.ofChange s with cond := some uptoSmall }

/-- 'pianolalaw17.LoopsFolds', WHERE WHAT IT READS IS OF BULK AT MOST 1048576: true; the input reads as it did. -/
def loopsFoldsUptoRow : OpenClaim := { program := "ytndkgmgkbedepaa", sum := "d237873b6fda9c519bc06946df99ae3d33537953b83dd9a7ce0d1dcdb7ba4696", func := "pianola/pianolalaw17.LoopsFolds", spec := "loopsFolds", recurses := true, loops := true, plainKeys := false, apart := false, narrowed := true }
def LoopsFoldsUptoSaid : Prop := loopsFoldsUptoRow.holds Try.pinned (OpenSpec.upto loopsFoldsSpec)

/-- 'pianolalaw17.LoopsCompresses', WHERE WHAT IT READS IS OF BULK AT MOST 1048576: true; the input reads as it did. -/
def loopsCompressesUptoRow : OpenClaim := { program := "ytndkgmgkbedepaa", sum := "d237873b6fda9c519bc06946df99ae3d33537953b83dd9a7ce0d1dcdb7ba4696", func := "pianola/pianolalaw17.LoopsCompresses", spec := "loopsCompresses", recurses := true, plainKeys := false, apart := false, narrowed := true }
def LoopsCompressesUptoSaid : Prop := loopsCompressesUptoRow.holds Try.pinned (OpenSpec.upto loopsCompressesSpec)

/-- 'pianolalaw17.LoopsRound', WHERE WHAT IT READS IS OF BULK AT MOST 1048576: true; the input reads as it did. -/
def loopsRoundUptoRow : OpenClaim := { program := "ytndkgmgkbedepaa", sum := "d237873b6fda9c519bc06946df99ae3d33537953b83dd9a7ce0d1dcdb7ba4696", func := "pianola/pianolalaw17.LoopsRound", spec := "loopsRound", recurses := true, plainKeys := false, apart := false, narrowed := true }
def LoopsRoundUptoSaid : Prop := loopsRoundUptoRow.holds Try.pinned (OpenSpec.upto loopsRoundSpec)

/-- 'pianolalaw17.LoopsNames', WHERE WHAT IT READS IS OF BULK AT MOST 1048576: true; the input reads as it did. -/
def loopsNamesUptoRow : OpenClaim := { program := "ytndkgmgkbedepaa", sum := "d237873b6fda9c519bc06946df99ae3d33537953b83dd9a7ce0d1dcdb7ba4696", func := "pianola/pianolalaw17.LoopsNames", spec := "loopsNames", recurses := true, plainKeys := false, apart := false, narrowed := true }
def LoopsNamesUptoSaid : Prop := loopsNamesUptoRow.holds Try.pinned (OpenSpec.upto loopsNamesSpec)

/-- 'pianolalaw17.LoopsSame', WHERE WHAT IT READS IS OF BULK AT MOST 1048576: true; the input reads as it did. -/
def loopsSameUptoRow : OpenClaim := { program := "ytndkgmgkbedepaa", sum := "d237873b6fda9c519bc06946df99ae3d33537953b83dd9a7ce0d1dcdb7ba4696", func := "pianola/pianolalaw17.LoopsSame", spec := "loopsSame", unfollowed := true, recurses := true, loops := true, plainKeys := false, apart := false, narrowed := true }
def LoopsSameUptoSaid : Prop := loopsSameUptoRow.holds Try.pinned (OpenSpec.upto loopsSameSpec)

/-- 'pianolalaw17.LoopsExpands', WHERE WHAT IT READS IS OF BULK AT MOST 1048576: true; the input reads as it did. -/
def loopsExpandsUptoRow : OpenClaim := { program := "ytndkgmgkbedepaa", sum := "d237873b6fda9c519bc06946df99ae3d33537953b83dd9a7ce0d1dcdb7ba4696", func := "pianola/pianolalaw17.LoopsExpands", spec := "loopsExpands", unfollowed := true, recurses := true, plainKeys := false, apart := false, narrowed := true }
def LoopsExpandsUptoSaid : Prop := loopsExpandsUptoRow.holds Try.pinned (OpenSpec.upto loopsExpandsSpec)

end Rows
end Go.Proofs.Ytndkgmgkbedepaa
