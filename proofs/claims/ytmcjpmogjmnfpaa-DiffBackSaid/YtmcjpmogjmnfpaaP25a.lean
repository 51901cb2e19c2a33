/- Whatever the input, the law DiffEdits returns true, and its arguments read behind the call as before; no conditions. -/
import Derived.Test.YtmcjpmogjmnfpaaL20
import Derived.Test.YtmcjpmogjmnfpaaLLaw
namespace Go.Proofs.Ytmcjpmogjmnfpaa
open Go Go.ChangeShapes Go.WideShapes Go.ChangeAt Go.RowKit

theorem rt_lock : Try.prog.readableRec 26 = true := by kernel_rfl
theorem lt_lock : 26 < Try.prog.types.size := of_decide_eq_true (by kernel_rfl)
set_option maxRecDepth 100000 in
theorem open_lock {H : Type} {enc : TypeId × Value → H} {W : World} {base : Nat} {v : Value} {d : DataW H} {p : List MemPlace} (hval : Value.okWide Try.prog W .any base 26 v)
    (h : DataW.Trod enc Try.prog W 0 (fun _ => true) true 26 v d p) : ∃ l lv, v = .agg (lockC l lv).toArray ∧ SliceOf 6 pinC W lv l.pins ∧ lockSm l := by
  obtain ⟨fuel, hf⟩ := h
  obtain ⟨⟨l, lv⟩, hcs, hok⟩ := opens_lockE _ _ _ hf
  refine ⟨l, lv, ?_, hok⟩
  simp only [Value.okWide, Try.underlying26] at hval
  obtain ⟨cs, rfl, -⟩ := hval
  simp only [Value.cells] at hcs
  rw [← hcs]

set_option maxRecDepth 100000 in
theorem diffEdits_lifted (os : Os) (started : os.Started) (H : Type) (enc : TypeId × Value → H) :
    ReturnsInHanded {} Try.checked os 3 .any (Rows.diffEditsSpec.pre6 enc Try.prog Try.f3 Rows.diffEditsRow.domain false) (Rows.diffEditsSpec.post enc Try.prog Try.f3 false true false false) := by
  refine returnsInHanded_of_change (C := Try.checked) own started (by kernel_rfl) Try.func3
    (ChangeSpec.witness6 (enc := enc) (C := Try.checked) false ⟨#[], #[.agg #[.string .empty, .string .empty, .string .empty, .slice none 0 0], .agg #[.string .empty, .string .empty, .string .empty, .slice none 0 0]], []⟩ 8 (by kernel_rfl) (by kernel_rfl) (by kernel_rfl) (by kernel_rfl)) ?_
  intro W base args ds gs before hval0 hW hcnd _
  have hval : ∀ (j : Nat) t v, Try.f3.params[j]? = some t → args[j]? = some v → Value.okWide Try.prog W .any base t v := hval0
  have hW' := hW
  obtain ⟨p, q, hA0, hV, rfl, hfz, hnd⟩ := hW
  have hA : DataW.TrodAll enc Try.prog W 0 (fun _ => true) true Try.f3.params.toList args.toList ds p := hA0
  have hA' := hA
  rw [Try.params3] at hA hval
  obtain ⟨v0, v1, d0, d1, p0, p1, rfl, rfl, rfl, h0, h1⟩ := trodAll_two hA
  obtain ⟨rfl, rfl⟩ := trodVars_none hV
  obtain ⟨a, av, rfl, ha, hsa⟩ := open_lock (hval 0 26 v0 rfl rfl) h0
  obtain ⟨b, bv, rfl, hb1, hsb⟩ := open_lock (hval 1 26 v1 rfl rfl) h1
  clear hA0 hval0
  have hlt : ∀ x ∈ p0 ++ p1, x.block < W.heap.size := fun x hx => by simpa using hW'.lt x (by simpa using hx)
  refine (diffEdits_any a b av bv W ha hb1 hsa hsb).mono fun en W' ⟨he, hb⟩ => ?_
  subst he
  refine ⟨_, rfl, _, _, _, [], p0 ++ p1, [], hW', trodAll_mk1 (shut_bool Try.underlying4 _), trodAll_below hb ?_ hA' hlt, rfl, hb.frame _, fun h => by cases h⟩
  rw [Try.params3]
  intro t ht
  simp at ht
  subst ht
  exact ⟨rt_lock, lt_lock⟩

theorem diffEdits_holds : Rows.DiffEditsSaid :=
  OpenClaim.holds_of_wide 3 Try.f3 rfl rfl rfl rfl rfl rfl rfl ⟨rfl, rfl, rfl, rfl, rfl⟩ rfl rfl rfl rfl rfl (by kernel_rfl) Try.func3 (by kernel_rfl)
    (of_decide_eq_true (by kernel_rfl)) (by unfold Func.isWrapper; rw [if_neg (of_decide_eq_false (by kernel_rfl))]; exact ⟨rfl, rfl⟩)
    (fun os started H enc _ => diffEdits_lifted os started H enc)

#print axioms diffEdits_holds

end Go.Proofs.Ytmcjpmogjmnfpaa
