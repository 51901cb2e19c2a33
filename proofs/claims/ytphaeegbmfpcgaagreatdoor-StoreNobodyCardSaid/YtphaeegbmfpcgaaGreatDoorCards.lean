/-
  DERIVED. GIVEN WITH THE SEED: THE CARDS: each row of YtphaeegbmfpcgaaGreatDoorRows.lean that lists a variable, with what it lists TIED to the program's text (the seventh form; the later family's looks); each row that meets fmt, with fmt's text TOLD by the authors' own Lean function (tested against real Go, not proved from fmt's source: count such statements apart). THE CARD IS WHAT COUNTS. Prove the row's statement (the work); the ties are given (YtphaeegbmfpcgaaGreatDoorTie.lean); close each card by the builder's one call (the guide's Derived/Test/ToyasCard.lean, 'card_holds'). Laid BY PROGRAM, IN A SANDBOX (cutbox-door.mjs). By AI agents, Wed Nov 11 2026. No macro, syntax, notation, axiom, sorry.
-/
import Derived.Test.YtphaeegbmfpcgaaGreatDoorRows
import GoSem.ClaimSeven
namespace Go.Proofs.YtphaeegbmfpcgaaGreatDoor
namespace Rows

/-- THE TIED CARD OF 'pomacelaw09.StorePuts'. -/
def storePutsCard : Claim7 := { stood := { row := storePutsRow, standIns := [], harness := (true, "f58cf4952fc89b7819b11c44ec632b4ded8169afefd142edd5eea02808833c58"), looks := true }, kinds := [], alts := [], laidByText := true, laidKinds := [.data, .pinned], laidTests := true, laidLooks := .later }
def StorePutsCardSaid : Prop := Claim7.holds Tryz.pinned (.plain (OpenSpec.ofChange storePutsSpec)) storePutsCard

/-- THE TIED CARD OF 'pomacelaw09.StoreNobody'. -/
def storeNobodyCard : Claim7 := { stood := { row := storeNobodyRow, standIns := [], harness := (true, "f58cf4952fc89b7819b11c44ec632b4ded8169afefd142edd5eea02808833c58"), looks := true }, kinds := [], alts := [], laidByText := true, laidKinds := [.data, .pinned], laidTests := true, laidLooks := .later }
def StoreNobodyCardSaid : Prop := Claim7.holds Tryz.pinned (.plain (OpenSpec.ofChange storeNobodySpec)) storeNobodyCard

/-- THE SECOND FORM's CARD OF 'pomacelaw09.StorePuts'. -/
def storePutsUptoCard : Claim7 := { stood := { row := storePutsUptoRow, standIns := [], harness := (true, "f58cf4952fc89b7819b11c44ec632b4ded8169afefd142edd5eea02808833c58"), looks := true }, kinds := [], alts := [], laidByText := true, laidKinds := [.data, .pinned], laidTests := true, laidLooks := .later }
def StorePutsUptoCardSaid : Prop := Claim7.holds Tryz.pinned (.plain (OpenSpec.upto storePutsSpec)) storePutsUptoCard

/-- THE SECOND FORM's CARD OF 'pomacelaw09.StoreNobody'. -/
def storeNobodyUptoCard : Claim7 := { stood := { row := storeNobodyUptoRow, standIns := [], harness := (true, "f58cf4952fc89b7819b11c44ec632b4ded8169afefd142edd5eea02808833c58"), looks := true }, kinds := [], alts := [], laidByText := true, laidKinds := [.data, .pinned], laidTests := true, laidLooks := .later }
def StoreNobodyUptoCardSaid : Prop := Claim7.holds Tryz.pinned (.plain (OpenSpec.upto storeNobodySpec)) storeNobodyUptoCard
end Rows
end Go.Proofs.YtphaeegbmfpcgaaGreatDoor
