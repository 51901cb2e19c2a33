/-
  DERIVED. GIVEN WITH THE SEED: THE CARDS: each row of YtecffghcpknmjaaDoorRows.lean that lists a variable, with what it lists TIED to the program's text (the seventh form; the later family's looks); each row that meets fmt, with fmt's text TOLD by the authors' own Lean function (tested against real Go, not proved from fmt's source: count such statements apart). THE CARD IS WHAT COUNTS. Prove the row's statement (the work); the ties are given (YtecffghcpknmjaaDoorTie.lean); close each card by the builder's one call (the guide's Derived/Test/ToyasCard.lean, 'card_holds'). Laid BY PROGRAM, IN A SANDBOX (cutbox-door.mjs). By AI agents, Wed Nov 11 2026. No macro, syntax, notation, axiom, sorry.
-/
import Derived.Test.YtecffghcpknmjaaDoorRows
import GoSem.ClaimSeven
namespace Go.Proofs.YtecffghcpknmjaaDoor
namespace Rows

/-- THE TIED CARD OF 'pomacelaw23.MetaOf'. -/
def metaOfCard : Claim7 := { stood := { row := metaOfRow, standIns := [], harness := (true, "ca75daf36b89d509da9f66e728777df19afa45d836f1bfaf4e400548447fbc23"), looks := false }, kinds := [], alts := [], laidByText := true, laidKinds := [.data, .pinned], laidTests := true, laidLooks := .later }
def MetaOfCardSaid : Prop := Claim7.holds Tryd.pinned (.plain (OpenSpec.ofChange metaOfSpec)) metaOfCard

/-- THE TIED CARD OF 'pomacelaw23.MetaMerges'. -/
def metaMergesCard : Claim7 := { stood := { row := metaMergesRow, standIns := [], harness := (true, "ca75daf36b89d509da9f66e728777df19afa45d836f1bfaf4e400548447fbc23"), looks := false }, kinds := [], alts := [], laidByText := true, laidKinds := [.data, .pinned], laidTests := true, laidLooks := .later }
def MetaMergesCardSaid : Prop := Claim7.holds Tryd.pinned (.plain (OpenSpec.ofChange metaMergesSpec)) metaMergesCard

/-- THE TIED CARD OF 'pomacelaw23.MetaMays'. -/
def metaMaysCard : Claim7 := { stood := { row := metaMaysRow, standIns := [], harness := (true, "ca75daf36b89d509da9f66e728777df19afa45d836f1bfaf4e400548447fbc23"), looks := false }, kinds := [], alts := [], laidByText := true, laidKinds := [.data, .pinned], laidTests := true, laidLooks := .later }
def MetaMaysCardSaid : Prop := Claim7.holds Tryd.pinned (.plain (OpenSpec.ofChange metaMaysSpec)) metaMaysCard

/-- THE TIED CARD OF 'pomacelaw23.MetaReads'. -/
def metaReadsCard : Claim7 := { stood := { row := metaReadsRow, standIns := [], harness := (true, "ca75daf36b89d509da9f66e728777df19afa45d836f1bfaf4e400548447fbc23"), looks := false }, kinds := [], alts := [], laidByText := true, laidKinds := [.data, .pinned], laidTests := true, laidLooks := .later }
def MetaReadsCardSaid : Prop := Claim7.holds Tryd.pinned (.plain (OpenSpec.ofChange metaReadsSpec)) metaReadsCard

/-- THE SECOND FORM's CARD OF 'pomacelaw23.MetaOf'. -/
def metaOfUptoCard : Claim7 := { stood := { row := metaOfUptoRow, standIns := [], harness := (true, "ca75daf36b89d509da9f66e728777df19afa45d836f1bfaf4e400548447fbc23"), looks := false }, kinds := [], alts := [], laidByText := true, laidKinds := [.data, .pinned], laidTests := true, laidLooks := .later }
def MetaOfUptoCardSaid : Prop := Claim7.holds Tryd.pinned (.plain (OpenSpec.upto metaOfSpec)) metaOfUptoCard

/-- THE SECOND FORM's CARD OF 'pomacelaw23.MetaMerges'. -/
def metaMergesUptoCard : Claim7 := { stood := { row := metaMergesUptoRow, standIns := [], harness := (true, "ca75daf36b89d509da9f66e728777df19afa45d836f1bfaf4e400548447fbc23"), looks := false }, kinds := [], alts := [], laidByText := true, laidKinds := [.data, .pinned], laidTests := true, laidLooks := .later }
def MetaMergesUptoCardSaid : Prop := Claim7.holds Tryd.pinned (.plain (OpenSpec.upto metaMergesSpec)) metaMergesUptoCard

/-- THE SECOND FORM's CARD OF 'pomacelaw23.MetaMays'. -/
def metaMaysUptoCard : Claim7 := { stood := { row := metaMaysUptoRow, standIns := [], harness := (true, "ca75daf36b89d509da9f66e728777df19afa45d836f1bfaf4e400548447fbc23"), looks := false }, kinds := [], alts := [], laidByText := true, laidKinds := [.data, .pinned], laidTests := true, laidLooks := .later }
def MetaMaysUptoCardSaid : Prop := Claim7.holds Tryd.pinned (.plain (OpenSpec.upto metaMaysSpec)) metaMaysUptoCard

/-- THE SECOND FORM's CARD OF 'pomacelaw23.MetaReads'. -/
def metaReadsUptoCard : Claim7 := { stood := { row := metaReadsUptoRow, standIns := [], harness := (true, "ca75daf36b89d509da9f66e728777df19afa45d836f1bfaf4e400548447fbc23"), looks := false }, kinds := [], alts := [], laidByText := true, laidKinds := [.data, .pinned], laidTests := true, laidLooks := .later }
def MetaReadsUptoCardSaid : Prop := Claim7.holds Tryd.pinned (.plain (OpenSpec.upto metaReadsSpec)) metaReadsUptoCard
end Rows
end Go.Proofs.YtecffghcpknmjaaDoor
