/-
  DERIVED. GIVEN WITH THE SEED: THE CARDS: each row of YtominiaohfjobaaGreatDoorRows.lean that lists a variable, with what it lists TIED to the program's text (the seventh form; the later family's looks); each row that meets fmt, with fmt's text TOLD by the authors' own Lean function (tested against real Go, not proved from fmt's source: count such statements apart). THE CARD IS WHAT COUNTS. Prove the row's statement (the work); the ties are given (YtominiaohfjobaaGreatDoorTie.lean); close each card by the builder's one call (the guide's Derived/Test/ToyasCard.lean, 'card_holds'). Laid BY PROGRAM, IN A SANDBOX (cutbox-door.mjs). By AI agents, Wed Nov 11 2026. No macro, syntax, notation, axiom, sorry.
-/
import Derived.Test.YtominiaohfjobaaGreatDoorRows
import GoSem.ClaimSeven
namespace Go.Proofs.YtominiaohfjobaaGreatDoor
namespace Rows

/-- THE TIED CARD OF 'pomacelaw09.StorePuts'. -/
def storePutsCard : Claim7 := { stood := { row := storePutsRow, standIns := [], harness := (true, "293cdd7a626ad9ffb9a0b45a6c8217e9932a8816412dd8f6c37490fbe382a2e3"), looks := true }, kinds := [], alts := [], laidByText := true, laidKinds := [.data, .pinned], laidTests := true, laidLooks := .later }
def StorePutsCardSaid : Prop := Claim7.holds Tryz.pinned (.plain (OpenSpec.ofChange storePutsSpec)) storePutsCard

/-- THE TIED CARD OF 'pomacelaw09.StoreTurned'. -/
def storeTurnedCard : Claim7 := { stood := { row := storeTurnedRow, standIns := [], harness := (true, "293cdd7a626ad9ffb9a0b45a6c8217e9932a8816412dd8f6c37490fbe382a2e3"), looks := true }, kinds := [], alts := [], laidByText := true, laidKinds := [.data, .pinned], laidTests := true, laidLooks := .later }
def StoreTurnedCardSaid : Prop := Claim7.holds Tryz.pinned (.plain (OpenSpec.ofChange storeTurnedSpec)) storeTurnedCard

/-- THE SECOND FORM's CARD OF 'pomacelaw09.StorePuts'. -/
def storePutsUptoCard : Claim7 := { stood := { row := storePutsUptoRow, standIns := [], harness := (true, "293cdd7a626ad9ffb9a0b45a6c8217e9932a8816412dd8f6c37490fbe382a2e3"), looks := true }, kinds := [], alts := [], laidByText := true, laidKinds := [.data, .pinned], laidTests := true, laidLooks := .later }
def StorePutsUptoCardSaid : Prop := Claim7.holds Tryz.pinned (.plain (OpenSpec.upto storePutsSpec)) storePutsUptoCard

/-- THE SECOND FORM's CARD OF 'pomacelaw09.StoreTurned'. -/
def storeTurnedUptoCard : Claim7 := { stood := { row := storeTurnedUptoRow, standIns := [], harness := (true, "293cdd7a626ad9ffb9a0b45a6c8217e9932a8816412dd8f6c37490fbe382a2e3"), looks := true }, kinds := [], alts := [], laidByText := true, laidKinds := [.data, .pinned], laidTests := true, laidLooks := .later }
def StoreTurnedUptoCardSaid : Prop := Claim7.holds Tryz.pinned (.plain (OpenSpec.upto storeTurnedSpec)) storeTurnedUptoCard
end Rows
end Go.Proofs.YtominiaohfjobaaGreatDoor
