/- What is another one in two lists of pins: the merging of the program and the document's answer are the same; no program in sight. -/
import Derived.Test.YtopknpainclmgaaGreatDoorL0

namespace Go.Proofs.YtopknpainclmgaaGreatDoor
open Go Go.RowKit

/-! The document's. -/
def findP (l : List Pin) (k : Key) : Option Pin := l.find? (fun p => decide (p.key = k))

end Go.Proofs.YtopknpainclmgaaGreatDoor
