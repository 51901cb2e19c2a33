/- Whatever the input, the law TreeNotes returns true, and its arguments read behind the call as before; no conditions. -/
import Derived.Test.YtpchljiiappmnaaG44
import Derived.Test.YtpchljiiappmnaaG24
import Derived.HandedShaped
namespace Go.Proofs.Ytpchljiiappmnaa
open Go Go.ChangeShapes Go.WideShapes Go.ChangeAt Go.RowKit Go.ChangeMaps

theorem rt_node : Try.prog.readableRec 54 = true := by kernel_rfl
theorem lt_node : 54 < Try.prog.types.size := of_decide_eq_true (by kernel_rfl)
theorem rt_string : Try.prog.readableRec 9 = true := by kernel_rfl
theorem lt_string : 9 < Try.prog.types.size := of_decide_eq_true (by kernel_rfl)

theorem rt_uint : Try.prog.readableRec 41 = true := by kernel_rfl
theorem lt_uint : 41 < Try.prog.types.size := of_decide_eq_true (by kernel_rfl)

set_option maxRecDepth 100000 in
theorem open_node {H : Type} {enc : TypeId × Value → H} {W : World} {base : Nat} {v : Value} {d : DataW H} {p : List MemPlace} (hval : Value.okWide Try.prog W .any base 54 v)
    (h : DataW.Trod enc Try.prog W 0 (fun _ => true) true 54 v d p) : ∃ t av kv, v = nodeV t av kv ∧ NodeOf W t av kv ∧ TrOk t := by
  obtain ⟨fuel, hf⟩ := h
  obtain ⟨⟨t, av, kv⟩, hcs, hok, ho2⟩ := opens_node _ _ _ hf
  refine ⟨t, av, kv, ?_, hok, ho2⟩
  simp only [Value.okWide, Try.underlying54] at hval
  obtain ⟨cs, rfl, -⟩ := hval
  simp only [Value.cells] at hcs
  show Value.agg cs = Value.agg (trC (t, av, kv)).toArray
  rw [← hcs]

set_option maxRecDepth 100000 in
theorem treeNotes_lifted (os : Os) (started : os.Started) (H : Type) (enc : TypeId × Value → H) :
    ReturnsInHanded {} Try.checked os 12 .any (Rows.treeNotesSpec.pre6 enc Try.prog Try.f12 Rows.treeNotesRow.domain false) (Rows.treeNotesSpec.post enc Try.prog Try.f12 false true false false) := by
  refine returnsInHanded_of_change_shaped (C := Try.checked) own started (by kernel_rfl) Try.func12
    (ChangeSpec.witness6 (enc := enc) (C := Try.checked) false ⟨#[], #[.agg #[.string .empty, .slice none 0 0, .slice none 0 0, .string .empty], .int .u64 0], []⟩ 8 (by kernel_rfl) (by kernel_rfl) (by kernel_rfl) (by kernel_rfl)) ?_
  intro W base args ds gs before hval0 hW hcnd _ hsh _
  have hval : ∀ (j : Nat) t v, Try.f12.params[j]? = some t → args[j]? = some v → Value.okWide Try.prog W .any base t v := hval0
  have hW' := hW
  obtain ⟨p, q, hA0, hV, rfl, hfz, hnd⟩ := hW
  have hA : DataW.TrodAll enc Try.prog W 0 (fun _ => true) true Try.f12.params.toList args.toList ds p := hA0
  have hA' := hA
  rw [Try.params12] at hA hval
  obtain ⟨v0, v1, d0, d1, p0, p1, rfl, rfl, rfl, h0, h1⟩ := trodAll_two hA
  obtain ⟨rfl, rfl⟩ := trodVars_none hV
  obtain ⟨t0, av0, kv0, rfl, hn0, ho0⟩ := open_node (hval 0 54 v0 rfl rfl) h0
  obtain ⟨x1, rfl, rfl, rfl, wx1⟩ := open_int Try.underlying41 (hval 1 41 v1 rfl rfl) h1
  clear hA0 hval0
  obtain ⟨m, hm⟩ : ∃ m, W.cell? ⟨0, 0, none⟩ = some (.int .i64 m) := Try.laysM143.s1_3 W hsh
  have hlt : ∀ x ∈ p0 ++ [], x.block < W.heap.size := fun x hx => by simpa using hW'.lt x (by simpa using hx)
  refine (treeNotesLaw_any t0 x1 m W av0 kv0 (by have h := (Bool.and_eq_true _ _ ▸ wx1 : _ ∧ _).1; exact of_decide_eq_true h) hn0 hm).mono fun en W' ⟨he, hb⟩ => ?_
  subst he
  refine ⟨_, rfl, _, _, _, [], p0 ++ [], [], hW', trodAll_mk1 (shut_bool Try.underlying4 _), trodAll_below hb ?_ hA' hlt, rfl, hb.frame _, fun h => by cases h⟩
  rw [Try.params12]
  intro t ht
  simp at ht
  rcases ht with rfl | rfl
  · exact ⟨rt_node, lt_node⟩
  · exact ⟨rt_uint, lt_uint⟩

theorem treeNotes_holds : Rows.TreeNotesSaid :=
  OpenClaim.holds_of_wide 12 Try.f12 rfl rfl rfl rfl rfl rfl rfl ⟨rfl, rfl, rfl, rfl, rfl⟩ rfl rfl rfl rfl rfl (by kernel_rfl) Try.func12 (by kernel_rfl)
    (of_decide_eq_true (by kernel_rfl)) (by unfold Func.isWrapper; rw [if_neg (of_decide_eq_false (by kernel_rfl))]; exact ⟨rfl, rfl⟩)
    (fun os started H enc _ => treeNotes_lifted os started H enc)

#print axioms treeNotes_holds

end Go.Proofs.Ytpchljiiappmnaa
