/- A part of the proof that the statement holds. Conditions: none. -/
import Derived.Test.YtlbdbpaelcnfgaaGreatDoorRows
import Derived.ProofKit
import Derived.SevenTiedAt
namespace Go.Proofs.YtlbdbpaelcnfgaaGreatDoor
open Go.RowKit Go.ChangeShapes Go.WideShapes Go.ChangeAt
set_option maxRecDepth 100000
theorem jT{a b:Bool}(x:a=true)(y:b=true):(a&&b)=true:=by rw[x,y];rfl
theorem ayQ:Rows.topImageRow.wf (OpenSpec.ofChange Rows.topImageSpec)=true:=by kernel_rfl
theorem ayR:laidOutB Tryz.pinned.checked.prog=true:=by kernel_rfl
theorem ay2:mapsRowed Tryz.pinned.checked.prog=true:=by kernel_rfl
theorem azc:Tryz.f6.params.all (Tryz.pinned.checked.prog.readableRec ·)=true:=by kernel_rfl
theorem azf:namedTie Tryz.pinned.checked.prog Rows.topImageRow.named Rows.topImageSpec.vars=true:=by kernel_rfl
theorem azg:(Rows.topImageRow.stops==[])=true:=by kernel_rfl
theorem azh:(Tryz.pinned.checked.prog.stops==[])=true:=by kernel_rfl
theorem azi:(Rows.topImageRow.knobs==[])=true:=by kernel_rfl
theorem azj:(Tryz.pinned.checked.prog.stopKnobs==[])=true:=by kernel_rfl
theorem azk:(Rows.topImageRow.inPlace==Tryz.pinned.checked.prog.inPlace 6)=true:=by kernel_rfl
theorem ayS:(Rows.topImageRow.unfollowed==Tryz.pinned.checked.prog.unfollowed 6)=true:=by kernel_rfl
theorem ayT:(Rows.topImageRow.recurses==Tryz.pinned.checked.prog.recurses 6)=true:=by kernel_rfl
theorem ayU:(Rows.topImageRow.named==Tryz.pinned.checked.prog.varsNamed 6)=true:=by kernel_rfl
theorem ayV:(Rows.topImageRow.maps==(Tryz.f6.params.toList++Rows.topImageSpec.plain.varTypes Tryz.pinned.checked.prog).any (Tryz.pinned.checked.prog.mapsRec ·))=true:=by kernel_rfl
theorem ayW:(Rows.topImageRow.ifaces==(Tryz.f6.params.toList++Rows.topImageSpec.plain.varTypes Tryz.pinned.checked.prog).any (Tryz.pinned.checked.prog.ifacesRec ·))=true:=by kernel_rfl
theorem ayX:(Rows.topImageRow.mapsOut==Tryz.pinned.checked.prog.mapsAmong Tryz.f6.resultTypes.toList)=true:=by kernel_rfl
theorem ayY:(Rows.topImageRow.loops==(Tryz.f6.params.toList++Rows.topImageSpec.plain.varTypes Tryz.pinned.checked.prog).any (Tryz.pinned.checked.prog.loopsFrom ·))=true:=by kernel_rfl
theorem ayZ:(Rows.topImageRow.wideKeys==(Tryz.f6.params.toList++Rows.topImageSpec.plain.varTypes Tryz.pinned.checked.prog++Tryz.f6.resultTypes.toList).any (Tryz.pinned.checked.prog.wideKeysFrom ·))=true:=by kernel_rfl
theorem ay0:Rows.topImageSpec.vars.all (Tryz.pinned.checked.prog.varReadable ·)=true:=by kernel_rfl
theorem ay1:Tryz.f6.resultTypes.all (λt=>Tryz.pinned.checked.prog.readableRec t&&decide (t<Tryz.pinned.checked.prog.types.size))=true:=by kernel_rfl
theorem ay3:(Rows.topImageRow.ifacesOut==Tryz.f6.resultTypes.toList.any (Tryz.pinned.checked.prog.ifacesRec ·))=true:=by kernel_rfl
theorem ay4:(Rows.topImageRow.loopsOut==Tryz.f6.resultTypes.toList.any (Tryz.pinned.checked.prog.loopsFrom ·))=true:=by kernel_rfl
theorem ay5:(Rows.topImageRow.plainKeys==Tryz.pinned.checked.prog.plainKeys)=true:=by kernel_rfl
theorem ay6:Rows.topImageRow.shortTexts.isNone=true:=by kernel_rfl
theorem ay7:Tryz.pinned.checked.prog.stopsHeard=true:=by kernel_rfl
theorem ay8:Tryz.pinned.checked.prog.mayEnter=true:=by kernel_rfl
theorem ay9:(Rows.topImageRow.lifted==Tryz.pinned.checked.prog.liftsFinal)=true:=by kernel_rfl
theorem ay':(Tryz.pinned.checked.prog.make==some Rows.topImageRow.make)=true:=by kernel_rfl
theorem aza:(Rows.topImageRow.kinds==(if Rows.topImageRow.domain.isEmpty then[]else Tryz.f6.params.toList.map λt=>match Tryz.pinned.checked.prog.underlying t with|some (.int k)=>some k|_=>none))=true:=by kernel_rfl
theorem azb:(Rows.topImageRow.pinned==Rows.topImageRow.pinnedBy)=true:=by kernel_rfl
theorem azd:(Rows.topImageRow.veiled==(Tryz.f6.params.toList++Rows.topImageSpec.plain.varTypes Tryz.pinned.checked.prog++Tryz.f6.resultTypes.toList).any (Tryz.pinned.checked.prog.veiledRec ·))=true:=by kernel_rfl
theorem aze:Rows.topImageRow.veiledFits Tryz.pinned.checked.prog Tryz.f6.params.toList (Tryz.f6.params.toList++Rows.topImageSpec.plain.varTypes Tryz.pinned.checked.prog++Tryz.f6.resultTypes.toList)=true:=by kernel_rfl
theorem azl:joinedFacts Tryz.pinned.checked.prog 6 Tryz.f6 Rows.topImageSpec Rows.topImageRow=true:=by
 unfold joinedFacts;exact(jT (jT (jT (jT (jT (jT (jT (jT (jT (jT (jT (jT (jT (jT (jT (jT (jT (jT (jT (jT (jT (jT (jT (jT (jT (jT (jT (jT (jT (jT (jT ayQ ayR) ay2) azc) azf) azg) azh) azi) azj) azk) ayS) ayT) ayU) ayV) ayW) ayX) ayY) ayZ) ay0) ay1) ay3) ay4) ay5) ay6) ay7) ay8) ay9) ay') aza) azb) azd) aze)
end Go.Proofs.YtlbdbpaelcnfgaaGreatDoor
