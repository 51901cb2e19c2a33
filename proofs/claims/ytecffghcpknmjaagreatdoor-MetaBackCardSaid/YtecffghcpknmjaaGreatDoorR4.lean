/- Walks of Trim, the program's and the document's; their conditions stand in the theorems. -/
import Derived.Test.YtecffghcpknmjaaGreatDoorR0
import Derived.Test.YtecffghcpknmjaaGreatDoorK4
import Derived.Test.YtecffghcpknmjaaGreatDoorShelf
import Derived.Test.YtecffghcpknmjaaGreatDoorK0

namespace Go.Proofs.YtecffghcpknmjaaGreatDoor
open Go Go.RowKit

theorem ext_trim (s : S) (a b : Nat) : (s.extract a b).data.toList = (s.data.toList.drop a).take (b - a) := by
  simp [ByteArray.data_extract, Array.toList_extract, List.extract_eq_take_drop]
def sizeOfV (v : Value) : Nat := match v with | .string s => s.size | _ => 0

end Go.Proofs.YtecffghcpknmjaaGreatDoor
