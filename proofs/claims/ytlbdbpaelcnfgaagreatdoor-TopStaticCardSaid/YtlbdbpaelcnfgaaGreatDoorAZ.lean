/- A part of the proof that the statement holds. Conditions: none. -/
import Derived.Test.YtlbdbpaelcnfgaaGreatDoorRows
import Derived.ProofKit
import Derived.SevenTiedAt
namespace Go.Proofs.YtlbdbpaelcnfgaaGreatDoor
open Go.RowKit Go.ChangeShapes Go.WideShapes Go.ChangeAt
set_option maxRecDepth 100000
theorem lj{a b:Bool}(x:a=true)(y:b=true):(a&&b)=true:=by rw[x,y];rfl
theorem aGQ:Rows.topStaticRow.wf (OpenSpec.ofChange Rows.topStaticSpec)=true:=by kernel_rfl
theorem aGR:laidOutB Tryz.pinned.checked.prog=true:=by kernel_rfl
theorem aG2:mapsRowed Tryz.pinned.checked.prog=true:=by kernel_rfl
theorem aHc:Tryz.f3.params.all (Tryz.pinned.checked.prog.readableRec ·)=true:=by kernel_rfl
theorem aHf:namedTie Tryz.pinned.checked.prog Rows.topStaticRow.named Rows.topStaticSpec.vars=true:=by kernel_rfl
theorem aHg:(Rows.topStaticRow.stops==[])=true:=by kernel_rfl
theorem aHh:(Tryz.pinned.checked.prog.stops==[])=true:=by kernel_rfl
theorem aHi:(Rows.topStaticRow.knobs==[])=true:=by kernel_rfl
theorem aHj:(Tryz.pinned.checked.prog.stopKnobs==[])=true:=by kernel_rfl
theorem aHk:(Rows.topStaticRow.inPlace==Tryz.pinned.checked.prog.inPlace 3)=true:=by kernel_rfl
theorem aGS:(Rows.topStaticRow.unfollowed==Tryz.pinned.checked.prog.unfollowed 3)=true:=by kernel_rfl
theorem aGT:(Rows.topStaticRow.recurses==Tryz.pinned.checked.prog.recurses 3)=true:=by kernel_rfl
theorem aGU:(Rows.topStaticRow.named==Tryz.pinned.checked.prog.varsNamed 3)=true:=by kernel_rfl
theorem aGV:(Rows.topStaticRow.maps==(Tryz.f3.params.toList++Rows.topStaticSpec.plain.varTypes Tryz.pinned.checked.prog).any (Tryz.pinned.checked.prog.mapsRec ·))=true:=by kernel_rfl
theorem aGW:(Rows.topStaticRow.ifaces==(Tryz.f3.params.toList++Rows.topStaticSpec.plain.varTypes Tryz.pinned.checked.prog).any (Tryz.pinned.checked.prog.ifacesRec ·))=true:=by kernel_rfl
theorem aGX:(Rows.topStaticRow.mapsOut==Tryz.pinned.checked.prog.mapsAmong Tryz.f3.resultTypes.toList)=true:=by kernel_rfl
theorem aGY:(Rows.topStaticRow.loops==(Tryz.f3.params.toList++Rows.topStaticSpec.plain.varTypes Tryz.pinned.checked.prog).any (Tryz.pinned.checked.prog.loopsFrom ·))=true:=by kernel_rfl
theorem aGZ:(Rows.topStaticRow.wideKeys==(Tryz.f3.params.toList++Rows.topStaticSpec.plain.varTypes Tryz.pinned.checked.prog++Tryz.f3.resultTypes.toList).any (Tryz.pinned.checked.prog.wideKeysFrom ·))=true:=by kernel_rfl
theorem aG0:Rows.topStaticSpec.vars.all (Tryz.pinned.checked.prog.varReadable ·)=true:=by kernel_rfl
theorem aG1:Tryz.f3.resultTypes.all (λt=>Tryz.pinned.checked.prog.readableRec t&&decide (t<Tryz.pinned.checked.prog.types.size))=true:=by kernel_rfl
theorem aG3:(Rows.topStaticRow.ifacesOut==Tryz.f3.resultTypes.toList.any (Tryz.pinned.checked.prog.ifacesRec ·))=true:=by kernel_rfl
theorem aG4:(Rows.topStaticRow.loopsOut==Tryz.f3.resultTypes.toList.any (Tryz.pinned.checked.prog.loopsFrom ·))=true:=by kernel_rfl
theorem aG5:(Rows.topStaticRow.plainKeys==Tryz.pinned.checked.prog.plainKeys)=true:=by kernel_rfl
theorem aG6:Rows.topStaticRow.shortTexts.isNone=true:=by kernel_rfl
theorem aG7:Tryz.pinned.checked.prog.stopsHeard=true:=by kernel_rfl
theorem aG8:Tryz.pinned.checked.prog.mayEnter=true:=by kernel_rfl
theorem aG9:(Rows.topStaticRow.lifted==Tryz.pinned.checked.prog.liftsFinal)=true:=by kernel_rfl
theorem aG':(Tryz.pinned.checked.prog.make==some Rows.topStaticRow.make)=true:=by kernel_rfl
theorem aHa:(Rows.topStaticRow.kinds==(if Rows.topStaticRow.domain.isEmpty then[]else Tryz.f3.params.toList.map λt=>match Tryz.pinned.checked.prog.underlying t with|some (.int k)=>some k|_=>none))=true:=by kernel_rfl
theorem aHb:(Rows.topStaticRow.pinned==Rows.topStaticRow.pinnedBy)=true:=by kernel_rfl
theorem aHd:(Rows.topStaticRow.veiled==(Tryz.f3.params.toList++Rows.topStaticSpec.plain.varTypes Tryz.pinned.checked.prog++Tryz.f3.resultTypes.toList).any (Tryz.pinned.checked.prog.veiledRec ·))=true:=by kernel_rfl
theorem aHe:Rows.topStaticRow.veiledFits Tryz.pinned.checked.prog Tryz.f3.params.toList (Tryz.f3.params.toList++Rows.topStaticSpec.plain.varTypes Tryz.pinned.checked.prog++Tryz.f3.resultTypes.toList)=true:=by kernel_rfl
theorem aHl:joinedFacts Tryz.pinned.checked.prog 3 Tryz.f3 Rows.topStaticSpec Rows.topStaticRow=true:=by
 unfold joinedFacts;exact(lj (lj (lj (lj (lj (lj (lj (lj (lj (lj (lj (lj (lj (lj (lj (lj (lj (lj (lj (lj (lj (lj (lj (lj (lj (lj (lj (lj (lj (lj (lj aGQ aGR) aG2) aHc) aHf) aHg) aHh) aHi) aHj) aHk) aGS) aGT) aGU) aGV) aGW) aGX) aGY) aGZ) aG0) aG1) aG3) aG4) aG5) aG6) aG7) aG8) aG9) aG') aHa) aHb) aHd) aHe)
end Go.Proofs.YtlbdbpaelcnfgaaGreatDoor
