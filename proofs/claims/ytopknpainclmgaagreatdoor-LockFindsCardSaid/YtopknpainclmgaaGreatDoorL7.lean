/- Walks: the document's find. -/
import Derived.Test.YtopknpainclmgaaGreatDoorL6

namespace Go.Proofs.YtopknpainclmgaaGreatDoor
open Go Go.RowKit

def keyEq (p q : Key) : Bool := decide (p = q)
theorem eql_keyB (p q : Key) (w : World) : (binOp .eql 28 (.agg #[.string p.group, .string p.artifact, .string p.type, .string p.classifier]) (.agg #[.string q.group, .string q.artifact, .string q.type, .string q.classifier])).run Tryz.prog w = .ok (.bool (keyEq p q)) w := eql_keyE p q w
theorem size_pinF : (Tryz.prog.info? 33).map (·.size) = some 6 := by kernel_rfl
theorem findP_go {l : List Pin} {k : Key} {j : Nat} (hj : j < l.length) (h : findP (l.take j) k = none) (hne : ¬ l[j].key = k) : findP (l.take (j + 1)) k = none := by
  rw [List.take_succ_eq_append_getElem hj]
  unfold findP at h ⊢
  rw [List.find?_append, h]
  simpa using hne
theorem findP_end {l : List Pin} {k : Key} {j : Nat} (hj : j < l.length) (h : findP (l.take j) k = none) (he : l[j].key = k) : findP l k = some l[j] := by
  have h1 : l = l.take j ++ l[j] :: l.drop (j + 1) := by rw [← List.drop_eq_getElem_cons hj, List.take_append_drop]
  unfold findP at h ⊢
  conv => lhs; rw [h1]
  rw [List.find?_append, h, List.find?_cons_of_pos (by simpa using he)]
  rfl

end Go.Proofs.YtopknpainclmgaaGreatDoor
