/- Trees, and how one is built of tokens, as plain functions; no program in sight. -/
import Derived.Test.YtecffghcpknmjaaGreatDoorK0

namespace Go.Proofs.YtecffghcpknmjaaGreatDoor
open Go Go.RowKit

inductive Tr where
  | mk (name : Bs) (attrs : List At2) (kids : List Tr) (text : Bs)
namespace Tr
def name : Tr → Bs
  | .mk n _ _ _ => n
def attrs : Tr → List At2
  | .mk _ a _ _ => a
def kids : Tr → List Tr
  | .mk _ _ k _ => k
def text : Tr → Bs
  | .mk _ _ _ x => x
end Tr

end Go.Proofs.YtecffghcpknmjaaGreatDoor
