/- Walks: diff.edit; the conditions stand in the theorems. -/
import Derived.Test.YtopknpainclmgaaGreatDoorL4
import Derived.Test.YtopknpainclmgaaGreatDoorLE
import Derived.BigRegion
import Derived.Deep.RegionHeld3
namespace Go.Proofs.YtopknpainclmgaaGreatDoor
open Go Go.RowKit

/-- A pointer to a pin in memory, or nil. -/
def PinAt (w : World) (g o : Nat) (p : Pin) : Prop := g < w.heap.size ∧ ∀ j u, (pinC p)[j]? = some u → w.cell? ⟨g, o + j, none⟩ = some u
theorem PinAt.below {w w' : World} {g o : Nat} {p : Pin} (h : PinAt w g o p) (hb : Below w.heap.size w w') : PinAt w' g o p :=
  ⟨Nat.lt_of_lt_of_le h.1 hb.size, fun j u hu => (hb.cell (by exact h.1)).trans (h.2 j u hu)⟩

end Go.Proofs.YtopknpainclmgaaGreatDoor
