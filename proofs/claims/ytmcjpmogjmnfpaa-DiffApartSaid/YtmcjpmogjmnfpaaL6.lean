/- Walks: equality of Keys and pins; diff.isSide. -/
import Derived.Test.YtmcjpmogjmnfpaaL4
import Derived.Test.YtmcjpmogjmnfpaaLE
namespace Go.Proofs.Ytmcjpmogjmnfpaa
open Go Go.RowKit

theorem toList_iff (a b : S) : a.toList = b.toList ↔ a = b := by
  rw [ByteArray.toList_eq, ByteArray.toList_eq]
  constructor
  · intro h
    obtain ⟨⟨x⟩⟩ := a
    obtain ⟨⟨y⟩⟩ := b
    simpa using h
  · rintro rfl; rfl
theorem eqg_pinE : Try.prog.eqGuardType Try.prog.depth 44 = false := by kernel_rfl
theorem eqs_pinE : Try.prog.stoodInHeld 44 = false := by kernel_rfl
theorem eql_pinE (p q : Pin) (w : World) : (binOp .eql 44 (.agg #[.string p.key.group, .string p.key.artifact, .string p.key.type, .string p.key.classifier, .string p.version, .int .i64 p.scope]) (.agg #[.string q.key.group, .string q.key.artifact, .string q.key.type, .string q.key.classifier, .string q.version, .int .i64 q.scope])).run Try.prog w = .ok (.bool (decide (p = q))) w := by
  have h := eqs_pinE
  obtain ⟨⟨a0, a1, a2, a3⟩, a4, a5⟩ := p
  obtain ⟨⟨b0, b1, b2, b3⟩, b4, b5⟩ := q
  simp [go_sem, h, toList_iff]
  by_cases h0 : a0 = b0 <;> by_cases h1 : a1 = b1 <;> by_cases h2 : a2 = b2 <;> by_cases h3 : a3 = b3 <;> by_cases h4 : a4 = b4 <;> by_cases h5 : a5 = b5 <;> simp [h0, h1, h2, h3, h4, h5]
theorem eqg_keyE : Try.prog.eqGuardType Try.prog.depth 42 = false := by kernel_rfl
theorem eqs_keyE : Try.prog.stoodInHeld 42 = false := by kernel_rfl
theorem eql_keyE (p q : Key) (w : World) : (binOp .eql 42 (.agg #[.string p.group, .string p.artifact, .string p.type, .string p.classifier]) (.agg #[.string q.group, .string q.artifact, .string q.type, .string q.classifier])).run Try.prog w = .ok (.bool (decide (p = q))) w := by
  have h := eqs_keyE
  obtain ⟨a0, a1, a2, a3⟩ := p
  obtain ⟨b0, b1, b2, b3⟩ := q
  simp [go_sem, h, toList_iff]
  by_cases h0 : a0 = b0 <;> by_cases h1 : a1 = b1 <;> by_cases h2 : a2 = b2 <;> by_cases h3 : a3 = b3 <;> simp [h0, h1, h2, h3]
theorem eql_noPin (p : Pin) (w : World) : (binOp .eql 44 (.agg #[.string p.key.group, .string p.key.artifact, .string p.key.type, .string p.key.classifier, .string p.version, .int .i64 p.scope]) (.agg #[.string ⟨#[]⟩, .string ⟨#[]⟩, .string ⟨#[]⟩, .string ⟨#[]⟩, .string ⟨#[]⟩, .int .i64 0])).run Try.prog w = .ok (.bool (decide (p = noPin))) w := eql_pinE p noPin w

attribute [local go_sem ↓] eqg_pinE eql_noPin eqg_keyE eql_keyE in
set_option maxRecDepth 100000 in
set_option maxHeartbeats 4000000 in
theorem isSide_any (k : Key) (is : Bool) (p : Pin) (w : World) : Calls Try.prog 30 #[.agg #[.string k.group, .string k.artifact, .string k.type, .string k.classifier], .bool is, .agg #[.string p.key.group, .string p.key.artifact, .string p.key.type, .string p.key.classifier, .string p.version, .int .i64 p.scope]] w fun e w' => e = .returned (.bool (sideOk k is p)) ∧ Below w.heap.size w w' := by
  have HB : Hid (∀ o1 o2, Below w.heap.size w ((w.alloc o1).alloc o2)) := fun o1 o2 => ((Below.refl _ w).alloc (Nat.le_refl _) _).alloc (by simp) _
  have H1 : Hid (sideOk k false p = decide (p = noPin)) := rfl
  have H2 : Hid (sideOk k true p = decide (p.key = k)) := rfl
  go_enter Try.func30, Try.ntmps30
  cases is
  · go_wp2
    go_ret
    exact ⟨by rw [H1.out]; rfl, HB.out _ _⟩
  · go_wp2
    go_ret
    exact ⟨by rw [H2.out]; rfl, HB.out _ _⟩

end Go.Proofs.Ytmcjpmogjmnfpaa
