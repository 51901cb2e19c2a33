/- Equality of the structs that the program compares: one law a type, as the walk takes it. -/
import Derived.Test.YtnhophaeimpkkaaProg
import Derived.Test.YtnhophaeimpkkaaBase
import Derived.KernelRfl
namespace Go.Proofs.Ytnhophaeimpkkaa
open Go Go.RowKit

theorem str_beq (a b : S) : (a.toList == b.toList) = decide (a = b) := by
  rw [Bool.eq_iff_iff, beq_iff_eq, decide_eq_true_iff, ByteArray.toList_eq, ByteArray.toList_eq]
  constructor
  · intro h
    obtain ⟨⟨x⟩⟩ := a
    obtain ⟨⟨y⟩⟩ := b
    simpa using h
  · rintro rfl; rfl

theorem eqg_prp : Try.prog.eqGuardType Try.prog.depth 36 = false := by kernel_rfl
theorem eqs_prp : Try.prog.stoodInHeld 36 = false := by kernel_rfl
theorem eql_prp (a0 a1 b0 b1 : S) (w : World) : (binOp .eql 36 (.agg #[.string a0, .string a1]) (.agg #[.string b0, .string b1])).run Try.prog w = .ok (.bool (decide (a0 = b0) && decide (a1 = b1))) w := by
  have h := eqs_prp
  by_cases h0 : a0 = b0 <;> by_cases h1 : a1 = b1 <;> simp [go_sem, h, h0, h1, str_beq]
theorem neq_prp (a0 a1 b0 b1 : S) (w : World) : (binOp .neq 36 (.agg #[.string a0, .string a1]) (.agg #[.string b0, .string b1])).run Try.prog w = .ok (.bool (!(decide (a0 = b0) && decide (a1 = b1)))) w := by
  have h := eqs_prp
  by_cases h0 : a0 = b0 <;> by_cases h1 : a1 = b1 <;> simp [go_sem, h, h0, h1, str_beq]

theorem eqg_id : Try.prog.eqGuardType Try.prog.depth 66 = false := by kernel_rfl
theorem eqs_id : Try.prog.stoodInHeld 66 = false := by kernel_rfl
theorem eql_id (a0 a1 b0 b1 : S) (w : World) : (binOp .eql 66 (.agg #[.string a0, .string a1]) (.agg #[.string b0, .string b1])).run Try.prog w = .ok (.bool (decide (a0 = b0) && decide (a1 = b1))) w := by
  have h := eqs_id
  by_cases h0 : a0 = b0 <;> by_cases h1 : a1 = b1 <;> simp [go_sem, h, h0, h1, str_beq]
theorem neq_id (a0 a1 b0 b1 : S) (w : World) : (binOp .neq 66 (.agg #[.string a0, .string a1]) (.agg #[.string b0, .string b1])).run Try.prog w = .ok (.bool (!(decide (a0 = b0) && decide (a1 = b1)))) w := by
  have h := eqs_id
  by_cases h0 : a0 = b0 <;> by_cases h1 : a1 = b1 <;> simp [go_sem, h, h0, h1, str_beq]

theorem eqg_gav : Try.prog.eqGuardType Try.prog.depth 23 = false := by kernel_rfl
theorem eqs_gav : Try.prog.stoodInHeld 23 = false := by kernel_rfl
theorem eql_gav (a0 a1 a2 b0 b1 b2 : S) (w : World) : (binOp .eql 23 (.agg #[.string a0, .string a1, .string a2]) (.agg #[.string b0, .string b1, .string b2])).run Try.prog w = .ok (.bool (decide (a0 = b0) && decide (a1 = b1) && decide (a2 = b2))) w := by
  have h := eqs_gav
  by_cases h0 : a0 = b0 <;> by_cases h1 : a1 = b1 <;> by_cases h2 : a2 = b2 <;> simp [go_sem, h, h0, h1, h2, str_beq]
theorem neq_gav (a0 a1 a2 b0 b1 b2 : S) (w : World) : (binOp .neq 23 (.agg #[.string a0, .string a1, .string a2]) (.agg #[.string b0, .string b1, .string b2])).run Try.prog w = .ok (.bool (!(decide (a0 = b0) && decide (a1 = b1) && decide (a2 = b2)))) w := by
  have h := eqs_gav
  by_cases h0 : a0 = b0 <;> by_cases h1 : a1 = b1 <;> by_cases h2 : a2 = b2 <;> simp [go_sem, h, h0, h1, h2, str_beq]

theorem eqg_key : Try.prog.eqGuardType Try.prog.depth 45 = false := by kernel_rfl
theorem eqs_key : Try.prog.stoodInHeld 45 = false := by kernel_rfl
theorem eql_key (a0 a1 a2 a3 b0 b1 b2 b3 : S) (w : World) : (binOp .eql 45 (.agg #[.string a0, .string a1, .string a2, .string a3]) (.agg #[.string b0, .string b1, .string b2, .string b3])).run Try.prog w = .ok (.bool (decide (a0 = b0) && decide (a1 = b1) && decide (a2 = b2) && decide (a3 = b3))) w := by
  have h := eqs_key
  by_cases h0 : a0 = b0 <;> by_cases h1 : a1 = b1 <;> by_cases h2 : a2 = b2 <;> by_cases h3 : a3 = b3 <;> simp [go_sem, h, h0, h1, h2, h3, str_beq]
theorem neq_key (a0 a1 a2 a3 b0 b1 b2 b3 : S) (w : World) : (binOp .neq 45 (.agg #[.string a0, .string a1, .string a2, .string a3]) (.agg #[.string b0, .string b1, .string b2, .string b3])).run Try.prog w = .ok (.bool (!(decide (a0 = b0) && decide (a1 = b1) && decide (a2 = b2) && decide (a3 = b3)))) w := by
  have h := eqs_key
  by_cases h0 : a0 = b0 <;> by_cases h1 : a1 = b1 <;> by_cases h2 : a2 = b2 <;> by_cases h3 : a3 = b3 <;> simp [go_sem, h, h0, h1, h2, h3, str_beq]

end Go.Proofs.Ytnhophaeimpkkaa
