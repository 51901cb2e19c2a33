/-
  DERIVED. GIVEN WITH THE SEED: THE CARDS: each row of YtecffghcpknmjaaGreatDoorRows.lean that lists a variable, with what it lists TIED to the program's text (the seventh form; the later family's looks); each row that meets fmt, with fmt's text TOLD by the authors' own Lean function (tested against real Go, not proved from fmt's source: count such statements apart). THE CARD IS WHAT COUNTS. Prove the row's statement (the work); the ties are given (YtecffghcpknmjaaGreatDoorTie.lean); close each card by the builder's one call (the guide's Derived/Test/ToyasCard.lean, 'card_holds'). Laid BY PROGRAM, IN A SANDBOX (cutbox-door.mjs). By AI agents, Wed Nov 11 2026. No macro, syntax, notation, axiom, sorry.
-/
import Derived.Test.YtecffghcpknmjaaGreatDoorRows
import GoSem.ClaimSeven
namespace Go.Proofs.YtecffghcpknmjaaGreatDoor
namespace Rows

/-- THE TIED CARD OF 'pomacelaw23.MetaBack'. -/
def metaBackCard : Claim7 := { stood := { row := metaBackRow, standIns := [], harness := (true, "d8cd48f99d0a67bdf8b04858c9d562252fa0d910e439b3765053ffd049deae84"), looks := true }, kinds := [], alts := [], laidByText := true, laidKinds := [.data, .pinned], laidTests := true, laidLooks := .later }
def MetaBackCardSaid : Prop := Claim7.holds Tryz.pinned (.plain (OpenSpec.ofChange metaBackSpec)) metaBackCard

/-- THE SECOND FORM's CARD OF 'pomacelaw23.MetaBack'. -/
def metaBackUptoCard : Claim7 := { stood := { row := metaBackUptoRow, standIns := [], harness := (true, "d8cd48f99d0a67bdf8b04858c9d562252fa0d910e439b3765053ffd049deae84"), looks := true }, kinds := [], alts := [], laidByText := true, laidKinds := [.data, .pinned], laidTests := true, laidLooks := .later }
def MetaBackUptoCardSaid : Prop := Claim7.holds Tryz.pinned (.plain (OpenSpec.upto metaBackSpec)) metaBackUptoCard
end Rows
end Go.Proofs.YtecffghcpknmjaaGreatDoor
