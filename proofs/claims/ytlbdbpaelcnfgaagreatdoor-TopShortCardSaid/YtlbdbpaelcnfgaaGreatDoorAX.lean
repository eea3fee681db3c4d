/- A part of the proof that the statement holds. Conditions: none. -/
import Derived.Test.YtlbdbpaelcnfgaaGreatDoorRows
import Derived.ProofKit
import Derived.SevenTiedAt
namespace Go.Proofs.YtlbdbpaelcnfgaaGreatDoor
open Go.RowKit Go.ChangeShapes Go.WideShapes Go.ChangeAt
set_option maxRecDepth 100000
theorem jT{a b:Bool}(x:a=true)(y:b=true):(a&&b)=true:=by rw[x,y];rfl
theorem ayQ:Rows.topShortRow.wf (OpenSpec.ofChange Rows.topShortSpec)=true:=by kernel_rfl
theorem ayR:laidOutB Tryz.pinned.checked.prog=true:=by kernel_rfl
theorem ay2:mapsRowed Tryz.pinned.checked.prog=true:=by kernel_rfl
theorem azc:Tryz.f5.params.all (Tryz.pinned.checked.prog.readableRec ·)=true:=by kernel_rfl
theorem azf:namedTie Tryz.pinned.checked.prog Rows.topShortRow.named Rows.topShortSpec.vars=true:=by kernel_rfl
theorem azg:(Rows.topShortRow.stops==[])=true:=by kernel_rfl
theorem azh:(Tryz.pinned.checked.prog.stops==[])=true:=by kernel_rfl
theorem azi:(Rows.topShortRow.knobs==[])=true:=by kernel_rfl
theorem azj:(Tryz.pinned.checked.prog.stopKnobs==[])=true:=by kernel_rfl
theorem azk:(Rows.topShortRow.inPlace==Tryz.pinned.checked.prog.inPlace 5)=true:=by kernel_rfl
theorem ayS:(Rows.topShortRow.unfollowed==Tryz.pinned.checked.prog.unfollowed 5)=true:=by kernel_rfl
theorem ayT:(Rows.topShortRow.recurses==Tryz.pinned.checked.prog.recurses 5)=true:=by kernel_rfl
theorem ayU:(Rows.topShortRow.named==Tryz.pinned.checked.prog.varsNamed 5)=true:=by kernel_rfl
theorem ayV:(Rows.topShortRow.maps==(Tryz.f5.params.toList++Rows.topShortSpec.plain.varTypes Tryz.pinned.checked.prog).any (Tryz.pinned.checked.prog.mapsRec ·))=true:=by kernel_rfl
theorem ayW:(Rows.topShortRow.ifaces==(Tryz.f5.params.toList++Rows.topShortSpec.plain.varTypes Tryz.pinned.checked.prog).any (Tryz.pinned.checked.prog.ifacesRec ·))=true:=by kernel_rfl
theorem ayX:(Rows.topShortRow.mapsOut==Tryz.pinned.checked.prog.mapsAmong Tryz.f5.resultTypes.toList)=true:=by kernel_rfl
theorem ayY:(Rows.topShortRow.loops==(Tryz.f5.params.toList++Rows.topShortSpec.plain.varTypes Tryz.pinned.checked.prog).any (Tryz.pinned.checked.prog.loopsFrom ·))=true:=by kernel_rfl
theorem ayZ:(Rows.topShortRow.wideKeys==(Tryz.f5.params.toList++Rows.topShortSpec.plain.varTypes Tryz.pinned.checked.prog++Tryz.f5.resultTypes.toList).any (Tryz.pinned.checked.prog.wideKeysFrom ·))=true:=by kernel_rfl
theorem ay0:Rows.topShortSpec.vars.all (Tryz.pinned.checked.prog.varReadable ·)=true:=by kernel_rfl
theorem ay1:Tryz.f5.resultTypes.all (λt=>Tryz.pinned.checked.prog.readableRec t&&decide (t<Tryz.pinned.checked.prog.types.size))=true:=by kernel_rfl
theorem ay3:(Rows.topShortRow.ifacesOut==Tryz.f5.resultTypes.toList.any (Tryz.pinned.checked.prog.ifacesRec ·))=true:=by kernel_rfl
theorem ay4:(Rows.topShortRow.loopsOut==Tryz.f5.resultTypes.toList.any (Tryz.pinned.checked.prog.loopsFrom ·))=true:=by kernel_rfl
theorem ay5:(Rows.topShortRow.plainKeys==Tryz.pinned.checked.prog.plainKeys)=true:=by kernel_rfl
theorem ay6:Rows.topShortRow.shortTexts.isNone=true:=by kernel_rfl
theorem ay7:Tryz.pinned.checked.prog.stopsHeard=true:=by kernel_rfl
theorem ay8:Tryz.pinned.checked.prog.mayEnter=true:=by kernel_rfl
theorem ay9:(Rows.topShortRow.lifted==Tryz.pinned.checked.prog.liftsFinal)=true:=by kernel_rfl
theorem ay':(Tryz.pinned.checked.prog.make==some Rows.topShortRow.make)=true:=by kernel_rfl
theorem aza:(Rows.topShortRow.kinds==(if Rows.topShortRow.domain.isEmpty then[]else Tryz.f5.params.toList.map λt=>match Tryz.pinned.checked.prog.underlying t with|some (.int k)=>some k|_=>none))=true:=by kernel_rfl
theorem azb:(Rows.topShortRow.pinned==Rows.topShortRow.pinnedBy)=true:=by kernel_rfl
theorem azd:(Rows.topShortRow.veiled==(Tryz.f5.params.toList++Rows.topShortSpec.plain.varTypes Tryz.pinned.checked.prog++Tryz.f5.resultTypes.toList).any (Tryz.pinned.checked.prog.veiledRec ·))=true:=by kernel_rfl
theorem aze:Rows.topShortRow.veiledFits Tryz.pinned.checked.prog Tryz.f5.params.toList (Tryz.f5.params.toList++Rows.topShortSpec.plain.varTypes Tryz.pinned.checked.prog++Tryz.f5.resultTypes.toList)=true:=by kernel_rfl
theorem azl:joinedFacts Tryz.pinned.checked.prog 5 Tryz.f5 Rows.topShortSpec Rows.topShortRow=true:=by
 unfold joinedFacts;exact(jT (jT (jT (jT (jT (jT (jT (jT (jT (jT (jT (jT (jT (jT (jT (jT (jT (jT (jT (jT (jT (jT (jT (jT (jT (jT (jT (jT (jT (jT (jT ayQ ayR) ay2) azc) azf) azg) azh) azi) azj) azk) ayS) ayT) ayU) ayV) ayW) ayX) ayY) ayZ) ay0) ay1) ay3) ay4) ay5) ay6) ay7) ay8) ay9) ay') aza) azb) azd) aze)
end Go.Proofs.YtlbdbpaelcnfgaaGreatDoor
