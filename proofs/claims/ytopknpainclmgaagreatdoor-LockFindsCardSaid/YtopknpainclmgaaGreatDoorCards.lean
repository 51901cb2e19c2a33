/-
  DERIVED. GIVEN WITH THE SEED: THE CARDS: each row of YtopknpainclmgaaGreatDoorRows.lean that lists a variable, with what it lists TIED to the program's text (the seventh form; the later family's looks); each row that meets fmt, with fmt's text TOLD by the authors' own Lean function (tested against real Go, not proved from fmt's source: count such statements apart). THE CARD IS WHAT COUNTS. Prove the row's statement (the work); the ties are given (YtopknpainclmgaaGreatDoorTie.lean); close each card by the builder's one call (the guide's Derived/Test/ToyasCard.lean, 'card_holds'). Laid BY PROGRAM, IN A SANDBOX (cutbox-door.mjs). By AI agents, Wed Nov 11 2026. No macro, syntax, notation, axiom, sorry.
-/
import Derived.Test.YtopknpainclmgaaGreatDoorRows
import GoSem.ClaimSeven
namespace Go.Proofs.YtopknpainclmgaaGreatDoor
namespace Rows

/-- THE TIED CARD OF 'pomacelaw24.LockFinds'. -/
def lockFindsCard : Claim7 := { stood := { row := lockFindsRow, standIns := [], harness := (true, "84c3d6d09ef9f03cb9167d2528072917b99d5d2576e7ca86451998fb71c25ecd"), looks := true }, kinds := [], alts := [], laidByText := true, laidKinds := [.data, .pinned], laidTests := true, laidLooks := .later }
def LockFindsCardSaid : Prop := Claim7.holds Tryz.pinned (.plain (OpenSpec.ofChange lockFindsSpec)) lockFindsCard

/-- THE SECOND FORM's CARD OF 'pomacelaw24.LockFinds'. -/
def lockFindsUptoCard : Claim7 := { stood := { row := lockFindsUptoRow, standIns := [], harness := (true, "84c3d6d09ef9f03cb9167d2528072917b99d5d2576e7ca86451998fb71c25ecd"), looks := true }, kinds := [], alts := [], laidByText := true, laidKinds := [.data, .pinned], laidTests := true, laidLooks := .later }
def LockFindsUptoCardSaid : Prop := Claim7.holds Tryz.pinned (.plain (OpenSpec.upto lockFindsSpec)) lockFindsUptoCard
end Rows
end Go.Proofs.YtopknpainclmgaaGreatDoor
