/- The closed facts of the row LockFinds, one by one; no conditions. -/
import Derived.Test.YtopknpainclmgaaGreatDoorRows
import Derived.Test.YtopknpainclmgaaGreatDoorDLaw
namespace Go.Proofs.YtopknpainclmgaaGreatDoor
open Go Go.ChangeShapes Go.WideShapes Go.ChangeAt Go.RowKit Go.ChangeMaps

theorem andT {a b : Bool} (ha : a = true) (hb : b = true) : (a && b) = true := by rw [ha, hb]; rfl
theorem lfJ0 : (Rows.lockFindsRow.wf (OpenSpec.ofChange Rows.lockFindsSpec)) = true := by kernel_rfl
theorem lfJ1 : (laidOutB Tryz.prog) = true := by kernel_rfl
theorem lfJ2 : (mapsRowed Tryz.prog) = true := by kernel_rfl
theorem lfJ3 : (Tryz.f3.params.all (Tryz.prog.readableRec ·)) = true := by kernel_rfl
theorem lfJ4 : (namedTie Tryz.prog Rows.lockFindsRow.named Rows.lockFindsSpec.vars) = true := by kernel_rfl
theorem lfJ5 : ((Rows.lockFindsRow.stops == [])) = true := by kernel_rfl
theorem lfJ6 : ((Tryz.prog.stops == [])) = true := by kernel_rfl
theorem lfJ7 : ((Rows.lockFindsRow.knobs == [])) = true := by kernel_rfl
theorem lfJ8 : ((Tryz.prog.stopKnobs == [])) = true := by kernel_rfl
theorem lfJ9 : ((Rows.lockFindsRow.inPlace == Tryz.prog.inPlace 3)) = true := by kernel_rfl
theorem lfJ10 : ((Rows.lockFindsRow.unfollowed == Tryz.prog.unfollowed 3)) = true := by kernel_rfl
theorem lfJ11 : ((Rows.lockFindsRow.recurses == Tryz.prog.recurses 3)) = true := by kernel_rfl
theorem lfJ12 : ((Rows.lockFindsRow.named == Tryz.prog.varsNamed 3)) = true := by kernel_rfl
theorem lfJ13 : ((Rows.lockFindsRow.maps == (Tryz.f3.params.toList ++ Rows.lockFindsSpec.plain.varTypes Tryz.prog).any (Tryz.prog.mapsRec ·))) = true := by kernel_rfl
theorem lfJ14 : ((Rows.lockFindsRow.ifaces == (Tryz.f3.params.toList ++ Rows.lockFindsSpec.plain.varTypes Tryz.prog).any (Tryz.prog.ifacesRec ·))) = true := by kernel_rfl
theorem lfJ15 : ((Rows.lockFindsRow.mapsOut == Tryz.prog.mapsAmong Tryz.f3.resultTypes.toList)) = true := by kernel_rfl
theorem lfJ16 : ((Rows.lockFindsRow.loops == (Tryz.f3.params.toList ++ Rows.lockFindsSpec.plain.varTypes Tryz.prog).any (Tryz.prog.loopsFrom ·))) = true := by kernel_rfl
theorem lfJ17 : ((Rows.lockFindsRow.wideKeys == (Tryz.f3.params.toList ++ Rows.lockFindsSpec.plain.varTypes Tryz.prog ++ Tryz.f3.resultTypes.toList).any (Tryz.prog.wideKeysFrom ·))) = true := by kernel_rfl
theorem lfJ18 : (Rows.lockFindsSpec.vars.all (Tryz.prog.varReadable ·)) = true := by kernel_rfl
theorem lfJ19 : (Tryz.f3.resultTypes.all (fun t => Tryz.prog.readableRec t && decide (t < Tryz.prog.types.size))) = true := by kernel_rfl
theorem lfJ20 : ((Rows.lockFindsRow.ifacesOut == Tryz.f3.resultTypes.toList.any (Tryz.prog.ifacesRec ·))) = true := by kernel_rfl
theorem lfJ21 : ((Rows.lockFindsRow.loopsOut == Tryz.f3.resultTypes.toList.any (Tryz.prog.loopsFrom ·))) = true := by kernel_rfl
theorem lfJ22 : ((Rows.lockFindsRow.plainKeys == Tryz.prog.plainKeys)) = true := by kernel_rfl
theorem lfJ23 : (Rows.lockFindsRow.shortTexts.isNone) = true := by kernel_rfl
theorem lfJ24 : (Tryz.prog.stopsHeard) = true := by kernel_rfl
theorem lfJ25 : (Tryz.prog.mayEnter) = true := by kernel_rfl
theorem lfJ26 : ((Rows.lockFindsRow.lifted == Tryz.prog.liftsFinal)) = true := by kernel_rfl
theorem lfJ27 : ((Tryz.prog.make == some Rows.lockFindsRow.make)) = true := by kernel_rfl
theorem lfJ28 : ((Rows.lockFindsRow.kinds == (if Rows.lockFindsRow.domain.isEmpty then [] else Tryz.f3.params.toList.map fun t => match Tryz.prog.underlying t with | some (.int k) => some k | _ => none))) = true := by kernel_rfl
theorem lfJ29 : ((Rows.lockFindsRow.pinned == Rows.lockFindsRow.pinnedBy)) = true := by kernel_rfl
theorem lfJ30 : ((Rows.lockFindsRow.veiled == (Tryz.f3.params.toList ++ Rows.lockFindsSpec.plain.varTypes Tryz.prog ++ Tryz.f3.resultTypes.toList).any (Tryz.prog.veiledRec ·))) = true := by kernel_rfl
theorem lfJ31 : (Rows.lockFindsRow.veiledFits Tryz.prog Tryz.f3.params.toList (Tryz.f3.params.toList ++ Rows.lockFindsSpec.plain.varTypes Tryz.prog ++ Tryz.f3.resultTypes.toList)) = true := by kernel_rfl
set_option maxRecDepth 100000 in
theorem lockFinds_facts : joinedFacts Tryz.prog 3 Tryz.f3 Rows.lockFindsSpec Rows.lockFindsRow = true := andT (andT (andT (andT (andT (andT (andT (andT (andT (andT (andT (andT (andT (andT (andT (andT (andT (andT (andT (andT (andT (andT (andT (andT (andT (andT (andT (andT (andT (andT (andT lfJ0 lfJ1) lfJ2) lfJ3) lfJ4) lfJ5) lfJ6) lfJ7) lfJ8) lfJ9) lfJ10) lfJ11) lfJ12) lfJ13) lfJ14) lfJ15) lfJ16) lfJ17) lfJ18) lfJ19) lfJ20) lfJ21) lfJ22) lfJ23) lfJ24) lfJ25) lfJ26) lfJ27) lfJ28) lfJ29) lfJ30) lfJ31

end Go.Proofs.YtopknpainclmgaaGreatDoor
