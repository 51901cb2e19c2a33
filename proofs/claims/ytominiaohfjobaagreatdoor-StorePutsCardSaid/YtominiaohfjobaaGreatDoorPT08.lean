/- The closed facts of the row StorePuts, one by one; no conditions. -/
import Derived.Test.YtominiaohfjobaaGreatDoorRows
import Derived.Test.YtominiaohfjobaaGreatDoorPT07
namespace Go.Proofs.YtominiaohfjobaaGreatDoor
open Go Go.ChangeShapes Go.WideShapes Go.ChangeAt Go.RowKit Go.ChangeMaps
theorem spJandT {a b:Bool} (ha:a=true) (hb:b=true):(a && b)=true:=by rw [ha,hb]; rfl
theorem spJ0:(Rows.storePutsRow.wf (OpenSpec.ofChange Rows.storePutsSpec))=true:=by kernel_rfl
theorem spJ1:(laidOutB Tryz.prog)=true:=by kernel_rfl
theorem spJ2:(mapsRowed Tryz.prog)=true:=by kernel_rfl
theorem spJ3:(Tryz.f3.params.all (Tryz.prog.readableRec ·))=true:=by kernel_rfl
theorem spJ4:(namedTie Tryz.prog Rows.storePutsRow.named Rows.storePutsSpec.vars)=true:=by kernel_rfl
theorem spJ5:((Rows.storePutsRow.stops == []))=true:=by kernel_rfl
theorem spJ6:((Tryz.prog.stops == []))=true:=by kernel_rfl
theorem spJ7:((Rows.storePutsRow.knobs == []))=true:=by kernel_rfl
theorem spJ8:((Tryz.prog.stopKnobs == []))=true:=by kernel_rfl
theorem spJ9:((Rows.storePutsRow.inPlace == Tryz.prog.inPlace 3))=true:=by kernel_rfl
theorem spJ10:((Rows.storePutsRow.unfollowed == Tryz.prog.unfollowed 3))=true:=by kernel_rfl
theorem spJ11:((Rows.storePutsRow.recurses == Tryz.prog.recurses 3))=true:=by kernel_rfl
theorem spJ12:((Rows.storePutsRow.named == Tryz.prog.varsNamed 3))=true:=by kernel_rfl
theorem spJ13:((Rows.storePutsRow.maps == (Tryz.f3.params.toList ++ Rows.storePutsSpec.plain.varTypes Tryz.prog).any (Tryz.prog.mapsRec ·)))=true:=by kernel_rfl
theorem spJ14:((Rows.storePutsRow.ifaces == (Tryz.f3.params.toList ++ Rows.storePutsSpec.plain.varTypes Tryz.prog).any (Tryz.prog.ifacesRec ·)))=true:=by kernel_rfl
theorem spJ15:((Rows.storePutsRow.mapsOut == Tryz.prog.mapsAmong Tryz.f3.resultTypes.toList))=true:=by kernel_rfl
theorem spJ16:((Rows.storePutsRow.loops == (Tryz.f3.params.toList ++ Rows.storePutsSpec.plain.varTypes Tryz.prog).any (Tryz.prog.loopsFrom ·)))=true:=by kernel_rfl
theorem spJ17:((Rows.storePutsRow.wideKeys == (Tryz.f3.params.toList ++ Rows.storePutsSpec.plain.varTypes Tryz.prog ++ Tryz.f3.resultTypes.toList).any (Tryz.prog.wideKeysFrom ·)))=true:=by kernel_rfl
theorem spJ18:(Rows.storePutsSpec.vars.all (Tryz.prog.varReadable ·))=true:=by kernel_rfl
theorem spJ19:(Tryz.f3.resultTypes.all (fun t=>Tryz.prog.readableRec t && decide (t<Tryz.prog.types.size)))=true:=by kernel_rfl
theorem spJ20:((Rows.storePutsRow.ifacesOut == Tryz.f3.resultTypes.toList.any (Tryz.prog.ifacesRec ·)))=true:=by kernel_rfl
theorem spJ21:((Rows.storePutsRow.loopsOut == Tryz.f3.resultTypes.toList.any (Tryz.prog.loopsFrom ·)))=true:=by kernel_rfl
theorem spJ22:((Rows.storePutsRow.plainKeys == Tryz.prog.plainKeys))=true:=by kernel_rfl
theorem spJ23:(Rows.storePutsRow.shortTexts.isNone)=true:=by kernel_rfl
theorem spJ24:(Tryz.prog.stopsHeard)=true:=by kernel_rfl
theorem spJ25:(Tryz.prog.mayEnter)=true:=by kernel_rfl
theorem spJ26:((Rows.storePutsRow.lifted == Tryz.prog.liftsFinal))=true:=by kernel_rfl
theorem spJ27:((Tryz.prog.make == some Rows.storePutsRow.make))=true:=by kernel_rfl
theorem spJ28:((Rows.storePutsRow.kinds == (if Rows.storePutsRow.domain.isEmpty then [] else Tryz.f3.params.toList.map fun t=>match Tryz.prog.underlying t with | some (.int k)=>some k | _=>none)))=true:=by kernel_rfl
theorem spJ29:((Rows.storePutsRow.pinned == Rows.storePutsRow.pinnedBy))=true:=by kernel_rfl
theorem spJ30:((Rows.storePutsRow.veiled == (Tryz.f3.params.toList ++ Rows.storePutsSpec.plain.varTypes Tryz.prog ++ Tryz.f3.resultTypes.toList).any (Tryz.prog.veiledRec ·)))=true:=by kernel_rfl
theorem spJ31:(Rows.storePutsRow.veiledFits Tryz.prog Tryz.f3.params.toList (Tryz.f3.params.toList ++ Rows.storePutsSpec.plain.varTypes Tryz.prog ++ Tryz.f3.resultTypes.toList))=true:=by kernel_rfl
set_option maxRecDepth 100000 in
theorem storePuts_facts:joinedFacts Tryz.prog 3 Tryz.f3 Rows.storePutsSpec Rows.storePutsRow=true:=spJandT (spJandT (spJandT (spJandT (spJandT (spJandT (spJandT (spJandT (spJandT (spJandT (spJandT (spJandT (spJandT (spJandT (spJandT (spJandT (spJandT (spJandT (spJandT (spJandT (spJandT (spJandT (spJandT (spJandT (spJandT (spJandT (spJandT (spJandT (spJandT (spJandT (spJandT spJ0 spJ1) spJ2) spJ3) spJ4) spJ5) spJ6) spJ7) spJ8) spJ9) spJ10) spJ11) spJ12) spJ13) spJ14) spJ15) spJ16) spJ17) spJ18) spJ19) spJ20) spJ21) spJ22) spJ23) spJ24) spJ25) spJ26) spJ27) spJ28) spJ29) spJ30) spJ31
end Go.Proofs.YtominiaohfjobaaGreatDoor
