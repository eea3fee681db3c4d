/-
  DERIVED. GIVEN WITH THE SEED: THE CARDS: each row of YtlbdbpaelcnfgaaGreatDoorRows.lean that lists a variable, with what it lists TIED to the program's text (the seventh form; the later family's looks); each row that meets fmt, with fmt's text TOLD by the authors' own Lean function (tested against real Go, not proved from fmt's source: count such statements apart). THE CARD IS WHAT COUNTS. Prove the row's statement (the work); the ties are given (YtlbdbpaelcnfgaaGreatDoorTie.lean); close each card by the builder's one call (the guide's Derived/Test/ToyasCard.lean, 'card_holds'). Laid BY PROGRAM, IN A SANDBOX (cutbox-door.mjs). By AI agents, Wed Nov 11 2026. No macro, syntax, notation, axiom, sorry.
-/
import Derived.Test.YtlbdbpaelcnfgaaGreatDoorRows
import GoSem.ClaimSeven
namespace Go.Proofs.YtlbdbpaelcnfgaaGreatDoor
namespace Rows

/-- THE TIED CARD OF 'pianolatop.TopStatic'. -/
def topStaticCard : Claim7 := { stood := { row := topStaticRow, standIns := [], harness := (true, "aaf62cf5aae113f9029ed774f777f7db0316ec3050044da3b57b95b588794e35"), looks := true }, kinds := [], alts := [], laidByText := true, laidKinds := [.data], laidTests := true, laidLooks := .later }
def TopStaticCardSaid : Prop := Claim7.holds Tryz.pinned (.plain (OpenSpec.ofChange topStaticSpec)) topStaticCard

/-- THE TIED CARD OF 'pianolatop.TopOrders'. -/
def topOrdersCard : Claim7 := { stood := { row := topOrdersRow, standIns := [], harness := (true, "aaf62cf5aae113f9029ed774f777f7db0316ec3050044da3b57b95b588794e35"), looks := true }, kinds := [], alts := [], laidByText := true, laidKinds := [.data], laidTests := true, laidLooks := .later }
def TopOrdersCardSaid : Prop := Claim7.holds Tryz.pinned (.plain (OpenSpec.ofChange topOrdersSpec)) topOrdersCard

/-- THE TIED CARD OF 'pianolatop.TopShort'. -/
def topShortCard : Claim7 := { stood := { row := topShortRow, standIns := [], harness := (true, "aaf62cf5aae113f9029ed774f777f7db0316ec3050044da3b57b95b588794e35"), looks := true }, kinds := [], alts := [], laidByText := true, laidKinds := [.data], laidTests := true, laidLooks := .later }
def TopShortCardSaid : Prop := Claim7.holds Tryz.pinned (.plain (OpenSpec.ofChange topShortSpec)) topShortCard

/-- THE TIED CARD OF 'pianolatop.TopImage'. -/
def topImageCard : Claim7 := { stood := { row := topImageRow, standIns := [], harness := (true, "aaf62cf5aae113f9029ed774f777f7db0316ec3050044da3b57b95b588794e35"), looks := true }, kinds := [], alts := [], laidByText := true, laidKinds := [.data], laidTests := true, laidLooks := .later }
def TopImageCardSaid : Prop := Claim7.holds Tryz.pinned (.plain (OpenSpec.ofChange topImageSpec)) topImageCard

/-- THE SECOND FORM's CARD OF 'pianolatop.TopStatic'. -/
def topStaticUptoCard : Claim7 := { stood := { row := topStaticUptoRow, standIns := [], harness := (true, "aaf62cf5aae113f9029ed774f777f7db0316ec3050044da3b57b95b588794e35"), looks := true }, kinds := [], alts := [], laidByText := true, laidKinds := [.data], laidTests := true, laidLooks := .later }
def TopStaticUptoCardSaid : Prop := Claim7.holds Tryz.pinned (.plain (OpenSpec.upto topStaticSpec)) topStaticUptoCard

/-- THE SECOND FORM's CARD OF 'pianolatop.TopOrders'. -/
def topOrdersUptoCard : Claim7 := { stood := { row := topOrdersUptoRow, standIns := [], harness := (true, "aaf62cf5aae113f9029ed774f777f7db0316ec3050044da3b57b95b588794e35"), looks := true }, kinds := [], alts := [], laidByText := true, laidKinds := [.data], laidTests := true, laidLooks := .later }
def TopOrdersUptoCardSaid : Prop := Claim7.holds Tryz.pinned (.plain (OpenSpec.upto topOrdersSpec)) topOrdersUptoCard

/-- THE SECOND FORM's CARD OF 'pianolatop.TopShort'. -/
def topShortUptoCard : Claim7 := { stood := { row := topShortUptoRow, standIns := [], harness := (true, "aaf62cf5aae113f9029ed774f777f7db0316ec3050044da3b57b95b588794e35"), looks := true }, kinds := [], alts := [], laidByText := true, laidKinds := [.data], laidTests := true, laidLooks := .later }
def TopShortUptoCardSaid : Prop := Claim7.holds Tryz.pinned (.plain (OpenSpec.upto topShortSpec)) topShortUptoCard

/-- THE SECOND FORM's CARD OF 'pianolatop.TopImage'. -/
def topImageUptoCard : Claim7 := { stood := { row := topImageUptoRow, standIns := [], harness := (true, "aaf62cf5aae113f9029ed774f777f7db0316ec3050044da3b57b95b588794e35"), looks := true }, kinds := [], alts := [], laidByText := true, laidKinds := [.data], laidTests := true, laidLooks := .later }
def TopImageUptoCardSaid : Prop := Claim7.holds Tryz.pinned (.plain (OpenSpec.upto topImageSpec)) topImageUptoCard
end Rows
end Go.Proofs.YtlbdbpaelcnfgaaGreatDoor
