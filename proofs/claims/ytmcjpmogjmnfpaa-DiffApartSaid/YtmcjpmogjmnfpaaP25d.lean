/- Whatever the input, the law DiffApart returns true, and its arguments read behind the call as before; no conditions. -/
import Derived.Test.YtmcjpmogjmnfpaaL39
import Derived.Test.YtmcjpmogjmnfpaaLLaw
import Derived.Test.YtmcjpmogjmnfpaaLOpen2
namespace Go.Proofs.Ytmcjpmogjmnfpaa
open Go Go.ChangeShapes Go.WideShapes Go.ChangeAt Go.RowKit

theorem rt_lock : Try.prog.readableRec 26 = true := by kernel_rfl
theorem lt_lock : 26 < Try.prog.types.size := of_decide_eq_true (by kernel_rfl)
set_option maxRecDepth 100000 in
theorem open_lock {H : Type} {enc : TypeId × Value → H} {W : World} {base : Nat} {v : Value} {d : DataW H} {p : List MemPlace} (hval : Value.okWide Try.prog W .any base 26 v)
    (h : DataW.Trod enc Try.prog W 0 (fun _ => true) true 26 v d p) : ∃ l lv, v = .agg (lockC l lv).toArray ∧ SliceOf 6 pinC W lv l.pins ∧ lockSm l := by
  obtain ⟨fuel, hf⟩ := h
  obtain ⟨⟨l, lv⟩, hcs, hok⟩ := opens_lockE _ _ _ hf
  refine ⟨l, lv, ?_, hok⟩
  simp only [Value.okWide, Try.underlying26] at hval
  obtain ⟨cs, rfl, -⟩ := hval
  simp only [Value.cells] at hcs
  rw [← hcs]

theorem rt_editsd : Try.prog.readableRec 29 = true := by kernel_rfl
theorem lt_editsd : 29 < Try.prog.types.size := of_decide_eq_true (by kernel_rfl)
set_option maxRecDepth 100000 in
theorem open_edits {H : Type} {enc : TypeId × Value → H} {W : World} {base : Nat} {v : Value} {d : DataW H} {p : List MemPlace} (hval : Value.okWide Try.prog W .any base 29 v) (h : DataW.Trod enc Try.prog W 0 (fun _ => true) true 29 v d p) : ∃ l, SliceOf 18 editC W v l ∧ ∀ e ∈ l, editSm e := by
  obtain ⟨fuel, hf⟩ := h
  obtain ⟨u, hcs, hok⟩ := opens_edits _ _ _ hf
  obtain ⟨l, h1, h2⟩ := hok
  obtain ⟨a0, len, cap, rfl⟩ := okWide_slice Try.underlying29 hval
  have e : Value.slice a0 len cap = u := by simpa [Value.cells] using hcs
  exact ⟨l, by rw [e]; exact h1, h2⟩

set_option maxRecDepth 100000 in
theorem diffApart_lifted (os : Os) (started : os.Started) (H : Type) (enc : TypeId × Value → H) :
    ReturnsInHanded {} Try.checked os 6 .any (Rows.diffApartSpec.pre6 enc Try.prog Try.f6 Rows.diffApartRow.domain false) (Rows.diffApartSpec.post enc Try.prog Try.f6 false true false false) := by
  refine returnsInHanded_of_change (C := Try.checked) own started (by kernel_rfl) Try.func6
    (ChangeSpec.witness6 (enc := enc) (C := Try.checked) false ⟨#[], #[.slice none 0 0, .slice none 0 0, .agg #[.string .empty, .string .empty, .string .empty, .slice none 0 0]], []⟩ 8 (by kernel_rfl) (by kernel_rfl) (by kernel_rfl) (by kernel_rfl)) ?_
  intro W base args ds gs before hval0 hW hcnd _
  have hval : ∀ (j : Nat) t v, Try.f6.params[j]? = some t → args[j]? = some v → Value.okWide Try.prog W .any base t v := hval0
  have hW' := hW
  obtain ⟨p, q, hA0, hV, rfl, hfz, hnd⟩ := hW
  have hA : DataW.TrodAll enc Try.prog W 0 (fun _ => true) true Try.f6.params.toList args.toList ds p := hA0
  have hA' := hA
  rw [Try.params6] at hA hval
  obtain ⟨v0, v1, v2, d0, d1, d2, p0, p1, p2, rfl, rfl, rfl, h0, h1, h2⟩ := trodAll_three hA
  obtain ⟨rfl, rfl⟩ := trodVars_none hV
  obtain ⟨a, ha, hsa⟩ := open_edits (hval 0 29 v0 rfl rfl) h0
  obtain ⟨b, hb, hsb⟩ := open_edits (hval 1 29 v1 rfl rfl) h1
  obtain ⟨c, cv, rfl, hc, hsc⟩ := open_lock (hval 2 26 v2 rfl rfl) h2
  clear hA0 hval0
  have hlt : ∀ x ∈ p0 ++ p1 ++ p2, x.block < W.heap.size := fun x hx => by simpa using hW'.lt x (by simpa using hx)
  refine (diffApart_any a b c v0 v1 cv W ha hb hc hsa hsb hsc).mono fun en W' ⟨he, hb⟩ => ?_
  subst he
  refine ⟨_, rfl, _, _, _, [], p0 ++ p1 ++ p2, [], hW', trodAll_mk1 (shut_bool Try.underlying4 _), trodAll_below hb ?_ hA' hlt, rfl, hb.frame _, fun h => by cases h⟩
  rw [Try.params6]
  intro t ht
  simp at ht
  rcases ht with rfl | rfl
  · exact ⟨rt_editsd, lt_editsd⟩
  · exact ⟨rt_lock, lt_lock⟩

theorem diffApart_holds : Rows.DiffApartSaid :=
  OpenClaim.holds_of_wide 6 Try.f6 rfl rfl rfl rfl rfl rfl rfl ⟨rfl, rfl, rfl, rfl, rfl⟩ rfl rfl rfl rfl rfl (by kernel_rfl) Try.func6 (by kernel_rfl)
    (of_decide_eq_true (by kernel_rfl)) (by unfold Func.isWrapper; rw [if_neg (of_decide_eq_false (by kernel_rfl))]; exact ⟨rfl, rfl⟩)
    (fun os started H enc _ => diffApart_lifted os started H enc)

#print axioms diffApart_holds

end Go.Proofs.Ytmcjpmogjmnfpaa
