/- Walks: equality of Keys and pins; diff.isSide. -/
import Derived.Test.YtopknpainclmgaaGreatDoorL4
import Derived.Test.YtopknpainclmgaaGreatDoorLE
import Derived.Test.YtopknpainclmgaaGreatDoorD14

namespace Go.Proofs.YtopknpainclmgaaGreatDoor
open Go Go.RowKit

theorem eqg_keyE : Tryz.prog.eqGuardType Tryz.prog.depth 28 = false := by kernel_rfl
theorem eqs_keyE : Tryz.prog.stoodInHeld 28 = false := by kernel_rfl
theorem eql_keyE (p q : Key) (w : World) : (binOp .eql 28 (.agg #[.string p.group, .string p.artifact, .string p.type, .string p.classifier]) (.agg #[.string q.group, .string q.artifact, .string q.type, .string q.classifier])).run Tryz.prog w = .ok (.bool (decide (p = q))) w := by
  have h := eqs_keyE
  obtain ⟨a0, a1, a2, a3⟩ := p
  obtain ⟨b0, b1, b2, b3⟩ := q
  simp [go_sem, h, toList_iff]
  by_cases h0 : a0 = b0 <;> by_cases h1 : a1 = b1 <;> by_cases h2 : a2 = b2 <;> by_cases h3 : a3 = b3 <;> simp [h0, h1, h2, h3]

end Go.Proofs.YtopknpainclmgaaGreatDoor
