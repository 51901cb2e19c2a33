/- Whatever the input, the law ChainMerges returns true, and its arguments read behind the call as before; no conditions. -/
import Derived.Test.YtnhophaeimpkkaaT18
import Derived.Test.YtnhophaeimpkkaaLaw
namespace Go.Proofs.Ytnhophaeimpkkaa
open Go Go.ChangeShapes Go.WideShapes Go.ChangeAt Go.RowKit

theorem rt_pom : Try.prog.readableRec 27 = true := by kernel_rfl
theorem lt_pom : 27 < Try.prog.types.size := of_decide_eq_true (by kernel_rfl)

set_option maxRecDepth 100000 in
theorem open_pom {H : Type} {enc : TypeId × Value → H} {W : World} {base : Nat} {v : Value} {d : DataW H} {p : List MemPlace} (hval : Value.okWide Try.prog W .any base 27 v)
    (h : DataW.Trod enc Try.prog W 0 (fun _ => true) true 27 v d p) : ∃ c pv mv dv, v = .agg (pomC c pv mv dv).toArray ∧ PomOf W (.agg (pomC c pv mv dv).toArray) c pv mv dv := by
  obtain ⟨fuel, hf⟩ := h
  obtain ⟨⟨c, pv, mv, dv⟩, hcs, hok⟩ := opens_pom _ _ _ hf
  refine ⟨c, pv, mv, dv, ?_, hok⟩
  simp only [Value.okWide, Try.underlying27] at hval
  obtain ⟨cs, rfl, -⟩ := hval
  simp only [Value.cells] at hcs
  rw [← hcs]

set_option maxRecDepth 100000 in
theorem chainMerges_lifted (os : Os) (started : os.Started) (H : Type) (enc : TypeId × Value → H) :
    ReturnsInHanded {} Try.checked os 3 .any (Rows.chainMergesSpec.pre6 enc Try.prog Try.f3 Rows.chainMergesRow.domain false) (Rows.chainMergesSpec.post enc Try.prog Try.f3 false true false false) := by
  refine returnsInHanded_of_change (C := Try.checked) own started (by kernel_rfl) Try.func3
    (ChangeSpec.witness6 (enc := enc) (C := Try.checked) false ⟨#[], #[.agg #[.bool false, .string .empty, .string .empty, .string .empty, .string .empty, .string .empty, .string .empty, .string .empty, .slice none 0 0, .slice none 0 0, .slice none 0 0], .agg #[.bool false, .string .empty, .string .empty, .string .empty, .string .empty, .string .empty, .string .empty, .string .empty, .slice none 0 0, .slice none 0 0, .slice none 0 0]], []⟩ 8 (by kernel_rfl) (by kernel_rfl) (by kernel_rfl) (by kernel_rfl)) ?_
  intro W base args ds gs before hval0 hW hcnd _
  have hval : ∀ (j : Nat) t v, Try.f3.params[j]? = some t → args[j]? = some v → Value.okWide Try.prog W .any base t v := hval0
  have hW' := hW
  obtain ⟨p, q, hA0, hV, rfl, hfz, hnd⟩ := hW
  have hA : DataW.TrodAll enc Try.prog W 0 (fun _ => true) true Try.f3.params.toList args.toList ds p := hA0
  have hA' := hA
  rw [Try.params3] at hA hval
  obtain ⟨v0, v1, d0, d1, p0, p1, rfl, rfl, rfl, h0, h1⟩ := trodAll_two hA
  obtain ⟨rfl, rfl⟩ := trodVars_none hV
  obtain ⟨c, pv, mv, dv, rfl, hc⟩ := open_pom (hval 0 27 v0 rfl rfl) h0
  obtain ⟨e, pv2, mv2, dv2, rfl, hp⟩ := open_pom (hval 1 27 v1 rfl rfl) h1
  clear hA0 hval0
  have hlt : ∀ x ∈ p0 ++ p1, x.block < W.heap.size := fun x hx => by simpa using hW'.lt x (by simpa using hx)
  refine (merges_any c e pv mv dv pv2 mv2 dv2 W hc hp).mono fun en W' ⟨he, hb⟩ => ?_
  subst he
  refine ⟨_, rfl, _, _, _, [], p0 ++ p1, [], hW', trodAll_mk1 (shut_bool Try.underlying4 _), trodAll_below hb ?_ hA' hlt, rfl, hb.frame _, fun h => by cases h⟩
  rw [Try.params3]
  intro t ht
  simp at ht
  subst ht
  exact ⟨rt_pom, lt_pom⟩

theorem chainMerges_holds : Rows.ChainMergesSaid :=
  OpenClaim.holds_of_wide 3 Try.f3 rfl rfl rfl rfl rfl rfl rfl ⟨rfl, rfl, rfl, rfl, rfl⟩ rfl rfl rfl rfl rfl (by kernel_rfl) Try.func3 (by kernel_rfl)
    (of_decide_eq_true (by kernel_rfl)) (by unfold Func.isWrapper; rw [if_neg (of_decide_eq_false (by kernel_rfl))]; exact ⟨rfl, rfl⟩)
    (fun os started H enc _ => chainMerges_lifted os started H enc)

#print axioms chainMerges_holds

end Go.Proofs.Ytnhophaeimpkkaa
