/- Whatever the input, the law TokenTags returns true, and its arguments read behind the call as before; no conditions. -/
import Derived.Test.YtpchljiiappmnaaK45
import Derived.Test.YtpchljiiappmnaaKOpen
import Derived.Test.YtpchljiiappmnaaKLaw
import Derived.HandedShaped
namespace Go.Proofs.Ytpchljiiappmnaa
open Go Go.ChangeShapes Go.WideShapes Go.ChangeAt Go.RowKit Go.ChangeMaps

theorem rt_string : Try.prog.readableRec 9 = true := by kernel_rfl
theorem lt_string : 9 < Try.prog.types.size := of_decide_eq_true (by kernel_rfl)

theorem rt_attrs : Try.prog.readableRec 32 = true := by kernel_rfl
theorem lt_attrs : 32 < Try.prog.types.size := of_decide_eq_true (by kernel_rfl)
theorem rt_uint : Try.prog.readableRec 41 = true := by kernel_rfl
theorem lt_uint : 41 < Try.prog.types.size := of_decide_eq_true (by kernel_rfl)

set_option maxRecDepth 100000 in
theorem open_attrs {H : Type} {enc : TypeId × Value → H} {W : World} {base : Nat} {v : Value} {d : DataW H} {p : List MemPlace} (hval : Value.okWide Try.prog W .any base 32 v)
    (h : DataW.Trod enc Try.prog W 0 (fun _ => true) true 32 v d p) : ∃ l, SliceOf 2 atC W v l ∧ ∀ a ∈ l, AtOk a := by
  obtain ⟨fuel, hf⟩ := h
  obtain ⟨v', hcs, l, hl, hok⟩ := opens_attrs _ _ _ hf
  obtain ⟨a, len, cap, rfl⟩ := okWide_slice Try.underlying32 hval
  have this : Value.slice a len cap = v' := by simpa [Value.cells] using hcs
  subst this
  exact ⟨l, hl, hok⟩

set_option maxRecDepth 100000 in
theorem tokenTags_lifted (os : Os) (started : os.Started) (H : Type) (enc : TypeId × Value → H) :
    ReturnsInHanded {} Try.checked os 6 .any (Rows.tokenTagsSpec.pre6 enc Try.prog Try.f6 Rows.tokenTagsRow.domain false) (Rows.tokenTagsSpec.post enc Try.prog Try.f6 false true false false) := by
  refine returnsInHanded_of_change_shaped (C := Try.checked) own started (by kernel_rfl) Try.func6
    (ChangeSpec.witness6 (enc := enc) (C := Try.checked) false ⟨#[], #[.string .empty, .slice none 0 0, .int .u64 0], []⟩ 8 (by kernel_rfl) (by kernel_rfl) (by kernel_rfl) (by kernel_rfl)) ?_
  intro W base args ds gs before hval0 hW hcnd _ hsh _
  have hval : ∀ (j : Nat) t v, Try.f6.params[j]? = some t → args[j]? = some v → Value.okWide Try.prog W .any base t v := hval0
  have hW' := hW
  obtain ⟨p, q, hA0, hV, rfl, hfz, hnd⟩ := hW
  have hA : DataW.TrodAll enc Try.prog W 0 (fun _ => true) true Try.f6.params.toList args.toList ds p := hA0
  have hA' := hA
  rw [Try.params6] at hA hval
  obtain ⟨v0, v1, v2, d0, d1, d2, p0, p1, p2, rfl, rfl, rfl, h0, h1, h2⟩ := trodAll_three hA
  obtain ⟨rfl, rfl⟩ := trodVars_none hV
  obtain ⟨s, rfl, rfl, rfl, ws⟩ := open_string Try.underlying9 (hval 0 9 v0 rfl rfl) h0
  obtain ⟨l, hl, hok⟩ := open_attrs (hval 1 32 v1 rfl rfl) h1
  obtain ⟨x, rfl, rfl, rfl, wx⟩ := open_int Try.underlying41 (hval 2 41 v2 rfl rfl) h2
  clear hA0 hval0
  obtain ⟨m, hm⟩ : ∃ m, W.cell? ⟨0, 0, none⟩ = some (.int .i64 m) := Try.laysM143.s1_3 W hsh
  have hlt : ∀ x ∈ ([] ++ p1 ++ []), x.block < W.heap.size := fun x hx => by simpa using hW'.lt x (by simpa using hx)
  refine (tags_any s v1 l x m W hm hl ws (fun a ha => hok a ha)).mono fun en W' ⟨he, hb⟩ => ?_
  subst he
  refine ⟨_, rfl, _, _, _, [], ([] ++ p1 ++ []), [], hW', trodAll_mk1 (shut_bool Try.underlying4 _), trodAll_below hb ?_ hA' hlt, rfl, hb.frame _, fun h => by cases h⟩
  rw [Try.params6]
  intro t ht
  simp at ht
  rcases ht with rfl | rfl | rfl
  · exact ⟨rt_string, lt_string⟩
  · exact ⟨rt_attrs, lt_attrs⟩
  · exact ⟨rt_uint, lt_uint⟩

theorem tokenTags_holds : Rows.TokenTagsSaid :=
  OpenClaim.holds_of_wide 6 Try.f6 rfl rfl rfl rfl rfl rfl rfl ⟨rfl, rfl, rfl, rfl, rfl⟩ rfl rfl rfl rfl rfl (by kernel_rfl) Try.func6 (by kernel_rfl)
    (of_decide_eq_true (by kernel_rfl)) (by unfold Func.isWrapper; rw [if_neg (of_decide_eq_false (by kernel_rfl))]; exact ⟨rfl, rfl⟩)
    (fun os started H enc _ => tokenTags_lifted os started H enc)

#print axioms tokenTags_holds

end Go.Proofs.Ytpchljiiappmnaa
