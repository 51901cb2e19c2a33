/- Walks of the predicates on bytes, the program's and the document's; their conditions stand in the theorems. -/
import Derived.Test.YtecffghcpknmjaaGreatDoorProg
import Derived.Test.YtecffghcpknmjaaGreatDoorK0
import Derived.WalkKit
import Derived.WalkSpells
import Derived.WalkLawsBesides
import Derived.Deep.QuietTactic
import Derived.BigQuiet
import Derived.Lib.Hide
namespace Go.Proofs.YtecffghcpknmjaaGreatDoor
open Go Go.RowKit

theorem isDigit_any (c : UInt8) (w : World) : Calls Tryz.prog 72 #[.int .u8 c.toNat] w fun e w' => e = .returned (.bool (cDigit c)) ∧ w = w' := by
  go_enter Tryz.func72, Tryz.ntmps72
  go_wp2
  all_goals (go_ret; exact ⟨ret_bool (by rw [Bool.eq_iff_iff]; simp [cDigit]; omega), rfl⟩)

end Go.Proofs.YtecffghcpknmjaaGreatDoor
