/- A part of the proof that the statement holds. Conditions: none. -/
import Derived.Test.YtlbdbpaelcnfgaaGreatDoorRows
import Derived.ProofKit
import Derived.SevenTiedAt
namespace Go.Proofs.YtlbdbpaelcnfgaaGreatDoor
open Go.RowKit Go.ChangeShapes Go.WideShapes Go.ChangeAt
set_option maxRecDepth 100000
theorem ks{a b:Bool}(x:a=true)(y:b=true):(a&&b)=true:=by rw[x,y];rfl
theorem aES:Rows.topOrdersRow.wf (OpenSpec.ofChange Rows.topOrdersSpec)=true:=by kernel_rfl
theorem aET:laidOutB Tryz.pinned.checked.prog=true:=by kernel_rfl
theorem aE4:mapsRowed Tryz.pinned.checked.prog=true:=by kernel_rfl
theorem aFe:Tryz.f4.params.all (Tryz.pinned.checked.prog.readableRec ·)=true:=by kernel_rfl
theorem aFh:namedTie Tryz.pinned.checked.prog Rows.topOrdersRow.named Rows.topOrdersSpec.vars=true:=by kernel_rfl
theorem aFi:(Rows.topOrdersRow.stops==[])=true:=by kernel_rfl
theorem aFj:(Tryz.pinned.checked.prog.stops==[])=true:=by kernel_rfl
theorem aFk:(Rows.topOrdersRow.knobs==[])=true:=by kernel_rfl
theorem aFl:(Tryz.pinned.checked.prog.stopKnobs==[])=true:=by kernel_rfl
theorem aFm:(Rows.topOrdersRow.inPlace==Tryz.pinned.checked.prog.inPlace 4)=true:=by kernel_rfl
theorem aEU:(Rows.topOrdersRow.unfollowed==Tryz.pinned.checked.prog.unfollowed 4)=true:=by kernel_rfl
theorem aEV:(Rows.topOrdersRow.recurses==Tryz.pinned.checked.prog.recurses 4)=true:=by kernel_rfl
theorem aEW:(Rows.topOrdersRow.named==Tryz.pinned.checked.prog.varsNamed 4)=true:=by kernel_rfl
theorem aEX:(Rows.topOrdersRow.maps==(Tryz.f4.params.toList++Rows.topOrdersSpec.plain.varTypes Tryz.pinned.checked.prog).any (Tryz.pinned.checked.prog.mapsRec ·))=true:=by kernel_rfl
theorem aEY:(Rows.topOrdersRow.ifaces==(Tryz.f4.params.toList++Rows.topOrdersSpec.plain.varTypes Tryz.pinned.checked.prog).any (Tryz.pinned.checked.prog.ifacesRec ·))=true:=by kernel_rfl
theorem aEZ:(Rows.topOrdersRow.mapsOut==Tryz.pinned.checked.prog.mapsAmong Tryz.f4.resultTypes.toList)=true:=by kernel_rfl
theorem aE0:(Rows.topOrdersRow.loops==(Tryz.f4.params.toList++Rows.topOrdersSpec.plain.varTypes Tryz.pinned.checked.prog).any (Tryz.pinned.checked.prog.loopsFrom ·))=true:=by kernel_rfl
theorem aE1:(Rows.topOrdersRow.wideKeys==(Tryz.f4.params.toList++Rows.topOrdersSpec.plain.varTypes Tryz.pinned.checked.prog++Tryz.f4.resultTypes.toList).any (Tryz.pinned.checked.prog.wideKeysFrom ·))=true:=by kernel_rfl
theorem aE2:Rows.topOrdersSpec.vars.all (Tryz.pinned.checked.prog.varReadable ·)=true:=by kernel_rfl
theorem aE3:Tryz.f4.resultTypes.all (λt=>Tryz.pinned.checked.prog.readableRec t&&decide (t<Tryz.pinned.checked.prog.types.size))=true:=by kernel_rfl
theorem aE5:(Rows.topOrdersRow.ifacesOut==Tryz.f4.resultTypes.toList.any (Tryz.pinned.checked.prog.ifacesRec ·))=true:=by kernel_rfl
theorem aE6:(Rows.topOrdersRow.loopsOut==Tryz.f4.resultTypes.toList.any (Tryz.pinned.checked.prog.loopsFrom ·))=true:=by kernel_rfl
theorem aE7:(Rows.topOrdersRow.plainKeys==Tryz.pinned.checked.prog.plainKeys)=true:=by kernel_rfl
theorem aE8:Rows.topOrdersRow.shortTexts.isNone=true:=by kernel_rfl
theorem aE9:Tryz.pinned.checked.prog.stopsHeard=true:=by kernel_rfl
theorem aE':Tryz.pinned.checked.prog.mayEnter=true:=by kernel_rfl
theorem aFa:(Rows.topOrdersRow.lifted==Tryz.pinned.checked.prog.liftsFinal)=true:=by kernel_rfl
theorem aFb:(Tryz.pinned.checked.prog.make==some Rows.topOrdersRow.make)=true:=by kernel_rfl
theorem aFc:(Rows.topOrdersRow.kinds==(if Rows.topOrdersRow.domain.isEmpty then[]else Tryz.f4.params.toList.map λt=>match Tryz.pinned.checked.prog.underlying t with|some (.int k)=>some k|_=>none))=true:=by kernel_rfl
theorem aFd:(Rows.topOrdersRow.pinned==Rows.topOrdersRow.pinnedBy)=true:=by kernel_rfl
theorem aFf:(Rows.topOrdersRow.veiled==(Tryz.f4.params.toList++Rows.topOrdersSpec.plain.varTypes Tryz.pinned.checked.prog++Tryz.f4.resultTypes.toList).any (Tryz.pinned.checked.prog.veiledRec ·))=true:=by kernel_rfl
theorem aFg:Rows.topOrdersRow.veiledFits Tryz.pinned.checked.prog Tryz.f4.params.toList (Tryz.f4.params.toList++Rows.topOrdersSpec.plain.varTypes Tryz.pinned.checked.prog++Tryz.f4.resultTypes.toList)=true:=by kernel_rfl
theorem aFn:joinedFacts Tryz.pinned.checked.prog 4 Tryz.f4 Rows.topOrdersSpec Rows.topOrdersRow=true:=by
 unfold joinedFacts;exact(ks (ks (ks (ks (ks (ks (ks (ks (ks (ks (ks (ks (ks (ks (ks (ks (ks (ks (ks (ks (ks (ks (ks (ks (ks (ks (ks (ks (ks (ks (ks aES aET) aE4) aFe) aFh) aFi) aFj) aFk) aFl) aFm) aEU) aEV) aEW) aEX) aEY) aEZ) aE0) aE1) aE2) aE3) aE5) aE6) aE7) aE8) aE9) aE') aFa) aFb) aFc) aFd) aFf) aFg)
end Go.Proofs.YtlbdbpaelcnfgaaGreatDoor
