/- The closed facts of the row MetaBack, one by one; no conditions. -/
import Derived.Test.YtecffghcpknmjaaGreatDoorRows
import Derived.Test.YtecffghcpknmjaaGreatDoorJK13
namespace Go.Proofs.YtecffghcpknmjaaGreatDoor
open Go Go.ChangeShapes Go.WideShapes Go.ChangeAt Go.RowKit Go.ChangeMaps

theorem mkJandT {a b : Bool} (ha : a = true) (hb : b = true) : (a && b) = true := by rw [ha, hb]; rfl
theorem mkJ0 : (Rows.metaBackRow.wf (OpenSpec.ofChange Rows.metaBackSpec)) = true := by kernel_rfl
theorem mkJ1 : (laidOutB Tryz.prog) = true := by kernel_rfl
theorem mkJ2 : (mapsRowed Tryz.prog) = true := by kernel_rfl
theorem mkJ3 : (Tryz.f3.params.all (Tryz.prog.readableRec ·)) = true := by kernel_rfl
theorem mkJ4 : (namedTie Tryz.prog Rows.metaBackRow.named Rows.metaBackSpec.vars) = true := by kernel_rfl
theorem mkJ5 : ((Rows.metaBackRow.stops == [])) = true := by kernel_rfl
theorem mkJ6 : ((Tryz.prog.stops == [])) = true := by kernel_rfl
theorem mkJ7 : ((Rows.metaBackRow.knobs == [])) = true := by kernel_rfl
theorem mkJ8 : ((Tryz.prog.stopKnobs == [])) = true := by kernel_rfl
theorem mkJ9 : ((Rows.metaBackRow.inPlace == Tryz.prog.inPlace 3)) = true := by kernel_rfl
theorem mkJ10 : ((Rows.metaBackRow.unfollowed == Tryz.prog.unfollowed 3)) = true := by kernel_rfl
theorem mkJ11 : ((Rows.metaBackRow.recurses == Tryz.prog.recurses 3)) = true := by kernel_rfl
theorem mkJ12 : ((Rows.metaBackRow.named == Tryz.prog.varsNamed 3)) = true := by kernel_rfl
theorem mkJ13 : ((Rows.metaBackRow.maps == (Tryz.f3.params.toList ++ Rows.metaBackSpec.plain.varTypes Tryz.prog).any (Tryz.prog.mapsRec ·))) = true := by kernel_rfl
theorem mkJ14 : ((Rows.metaBackRow.ifaces == (Tryz.f3.params.toList ++ Rows.metaBackSpec.plain.varTypes Tryz.prog).any (Tryz.prog.ifacesRec ·))) = true := by kernel_rfl
theorem mkJ15 : ((Rows.metaBackRow.mapsOut == Tryz.prog.mapsAmong Tryz.f3.resultTypes.toList)) = true := by kernel_rfl
theorem mkJ16 : ((Rows.metaBackRow.loops == (Tryz.f3.params.toList ++ Rows.metaBackSpec.plain.varTypes Tryz.prog).any (Tryz.prog.loopsFrom ·))) = true := by kernel_rfl
theorem mkJ17 : ((Rows.metaBackRow.wideKeys == (Tryz.f3.params.toList ++ Rows.metaBackSpec.plain.varTypes Tryz.prog ++ Tryz.f3.resultTypes.toList).any (Tryz.prog.wideKeysFrom ·))) = true := by kernel_rfl
theorem mkJ18 : (Rows.metaBackSpec.vars.all (Tryz.prog.varReadable ·)) = true := by kernel_rfl
theorem mkJ19 : (Tryz.f3.resultTypes.all (fun t => Tryz.prog.readableRec t && decide (t < Tryz.prog.types.size))) = true := by kernel_rfl
theorem mkJ20 : ((Rows.metaBackRow.ifacesOut == Tryz.f3.resultTypes.toList.any (Tryz.prog.ifacesRec ·))) = true := by kernel_rfl
theorem mkJ21 : ((Rows.metaBackRow.loopsOut == Tryz.f3.resultTypes.toList.any (Tryz.prog.loopsFrom ·))) = true := by kernel_rfl
theorem mkJ22 : ((Rows.metaBackRow.plainKeys == Tryz.prog.plainKeys)) = true := by kernel_rfl
theorem mkJ23 : (Rows.metaBackRow.shortTexts.isNone) = true := by kernel_rfl
theorem mkJ24 : (Tryz.prog.stopsHeard) = true := by kernel_rfl
theorem mkJ25 : (Tryz.prog.mayEnter) = true := by kernel_rfl
theorem mkJ26 : ((Rows.metaBackRow.lifted == Tryz.prog.liftsFinal)) = true := by kernel_rfl
theorem mkJ27 : ((Tryz.prog.make == some Rows.metaBackRow.make)) = true := by kernel_rfl
theorem mkJ28 : ((Rows.metaBackRow.kinds == (if Rows.metaBackRow.domain.isEmpty then [] else Tryz.f3.params.toList.map fun t => match Tryz.prog.underlying t with | some (.int k) => some k | _ => none))) = true := by kernel_rfl
theorem mkJ29 : ((Rows.metaBackRow.pinned == Rows.metaBackRow.pinnedBy)) = true := by kernel_rfl
theorem mkJ30 : ((Rows.metaBackRow.veiled == (Tryz.f3.params.toList ++ Rows.metaBackSpec.plain.varTypes Tryz.prog ++ Tryz.f3.resultTypes.toList).any (Tryz.prog.veiledRec ·))) = true := by kernel_rfl
theorem mkJ31 : (Rows.metaBackRow.veiledFits Tryz.prog Tryz.f3.params.toList (Tryz.f3.params.toList ++ Rows.metaBackSpec.plain.varTypes Tryz.prog ++ Tryz.f3.resultTypes.toList)) = true := by kernel_rfl
set_option maxRecDepth 100000 in
theorem metaBack_facts : joinedFacts Tryz.prog 3 Tryz.f3 Rows.metaBackSpec Rows.metaBackRow = true := mkJandT (mkJandT (mkJandT (mkJandT (mkJandT (mkJandT (mkJandT (mkJandT (mkJandT (mkJandT (mkJandT (mkJandT (mkJandT (mkJandT (mkJandT (mkJandT (mkJandT (mkJandT (mkJandT (mkJandT (mkJandT (mkJandT (mkJandT (mkJandT (mkJandT (mkJandT (mkJandT (mkJandT (mkJandT (mkJandT (mkJandT mkJ0 mkJ1) mkJ2) mkJ3) mkJ4) mkJ5) mkJ6) mkJ7) mkJ8) mkJ9) mkJ10) mkJ11) mkJ12) mkJ13) mkJ14) mkJ15) mkJ16) mkJ17) mkJ18) mkJ19) mkJ20) mkJ21) mkJ22) mkJ23) mkJ24) mkJ25) mkJ26) mkJ27) mkJ28) mkJ29) mkJ30) mkJ31

end Go.Proofs.YtecffghcpknmjaaGreatDoor
