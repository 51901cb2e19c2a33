/-
  DERIVED. GIVEN WITH THE SEED: THE CARDS: each row of YtmcjpmogjmnfpaaDoorRows.lean that lists a variable, with what it lists TIED to the program's text (the seventh form; the later family's looks); each row that meets fmt, with fmt's text TOLD by the authors' own Lean function (tested against real Go, not proved from fmt's source: count such statements apart). THE CARD IS WHAT COUNTS. Prove the row's statement (the work); the ties are given (YtmcjpmogjmnfpaaDoorTie.lean); close each card by the builder's one call (the guide's Derived/Test/ToyasCard.lean, 'card_holds'). Laid BY PROGRAM, IN A SANDBOX (cutbox-door.mjs). By AI agents, Wed Nov 11 2026. No macro, syntax, notation, axiom, sorry.
-/
import Derived.Test.YtmcjpmogjmnfpaaDoorRows
import GoSem.ClaimSeven
namespace Go.Proofs.YtmcjpmogjmnfpaaDoor
namespace Rows

/-- THE TIED CARD OF 'pomacelaw24.LockParses'. -/
def lockParsesCard : Claim7 := { stood := { row := lockParsesRow, standIns := [], harness := (true, "dfe1286a3613279e91647ea723dc6296b2459481c470f47c1e6f16883107bf66"), looks := false }, kinds := [], alts := [], laidByText := true, laidKinds := [.data, .pinned], laidTests := true, laidLooks := .later }
def LockParsesCardSaid : Prop := Claim7.holds Tryd.pinned (.plain (OpenSpec.ofChange lockParsesSpec)) lockParsesCard

/-- THE TIED CARD OF 'pomacelaw24.LockBack'. -/
def lockBackCard : Claim7 := { stood := { row := lockBackRow, standIns := [], harness := (true, "dfe1286a3613279e91647ea723dc6296b2459481c470f47c1e6f16883107bf66"), looks := false }, kinds := [], alts := [], laidByText := true, laidKinds := [.data, .pinned], laidTests := true, laidLooks := .later }
def LockBackCardSaid : Prop := Claim7.holds Tryd.pinned (.plain (OpenSpec.ofChange lockBackSpec)) lockBackCard

/-- THE TIED CARD OF 'pomacelaw24.LockStays'. -/
def lockStaysCard : Claim7 := { stood := { row := lockStaysRow, standIns := [], harness := (true, "dfe1286a3613279e91647ea723dc6296b2459481c470f47c1e6f16883107bf66"), looks := false }, kinds := [], alts := [], laidByText := true, laidKinds := [.data, .pinned], laidTests := true, laidLooks := .later }
def LockStaysCardSaid : Prop := Claim7.holds Tryd.pinned (.plain (OpenSpec.ofChange lockStaysSpec)) lockStaysCard

/-- THE TIED CARD OF 'pomacelaw24.LockMays'. -/
def lockMaysCard : Claim7 := { stood := { row := lockMaysRow, standIns := [], harness := (true, "dfe1286a3613279e91647ea723dc6296b2459481c470f47c1e6f16883107bf66"), looks := false }, kinds := [], alts := [], laidByText := true, laidKinds := [.data, .pinned], laidTests := true, laidLooks := .later }
def LockMaysCardSaid : Prop := Claim7.holds Tryd.pinned (.plain (OpenSpec.ofChange lockMaysSpec)) lockMaysCard

/-- THE SECOND FORM's CARD OF 'pomacelaw24.LockParses'. -/
def lockParsesUptoCard : Claim7 := { stood := { row := lockParsesUptoRow, standIns := [], harness := (true, "dfe1286a3613279e91647ea723dc6296b2459481c470f47c1e6f16883107bf66"), looks := false }, kinds := [], alts := [], laidByText := true, laidKinds := [.data, .pinned], laidTests := true, laidLooks := .later }
def LockParsesUptoCardSaid : Prop := Claim7.holds Tryd.pinned (.plain (OpenSpec.upto lockParsesSpec)) lockParsesUptoCard

/-- THE SECOND FORM's CARD OF 'pomacelaw24.LockBack'. -/
def lockBackUptoCard : Claim7 := { stood := { row := lockBackUptoRow, standIns := [], harness := (true, "dfe1286a3613279e91647ea723dc6296b2459481c470f47c1e6f16883107bf66"), looks := false }, kinds := [], alts := [], laidByText := true, laidKinds := [.data, .pinned], laidTests := true, laidLooks := .later }
def LockBackUptoCardSaid : Prop := Claim7.holds Tryd.pinned (.plain (OpenSpec.upto lockBackSpec)) lockBackUptoCard

/-- THE SECOND FORM's CARD OF 'pomacelaw24.LockStays'. -/
def lockStaysUptoCard : Claim7 := { stood := { row := lockStaysUptoRow, standIns := [], harness := (true, "dfe1286a3613279e91647ea723dc6296b2459481c470f47c1e6f16883107bf66"), looks := false }, kinds := [], alts := [], laidByText := true, laidKinds := [.data, .pinned], laidTests := true, laidLooks := .later }
def LockStaysUptoCardSaid : Prop := Claim7.holds Tryd.pinned (.plain (OpenSpec.upto lockStaysSpec)) lockStaysUptoCard

/-- THE SECOND FORM's CARD OF 'pomacelaw24.LockMays'. -/
def lockMaysUptoCard : Claim7 := { stood := { row := lockMaysUptoRow, standIns := [], harness := (true, "dfe1286a3613279e91647ea723dc6296b2459481c470f47c1e6f16883107bf66"), looks := false }, kinds := [], alts := [], laidByText := true, laidKinds := [.data, .pinned], laidTests := true, laidLooks := .later }
def LockMaysUptoCardSaid : Prop := Claim7.holds Tryd.pinned (.plain (OpenSpec.upto lockMaysSpec)) lockMaysUptoCard
end Rows
end Go.Proofs.YtmcjpmogjmnfpaaDoor
