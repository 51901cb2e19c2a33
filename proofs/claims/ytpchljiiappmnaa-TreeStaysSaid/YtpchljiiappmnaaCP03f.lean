/- Whatever the input, the law TreeStays returns true, and its arguments read behind the call as before; no conditions. -/
import Derived.Test.YtpchljiiappmnaaG42
import Derived.Test.YtpchljiiappmnaaG24
import Derived.HandedShaped
namespace Go.Proofs.Ytpchljiiappmnaa
open Go Go.ChangeShapes Go.WideShapes Go.ChangeAt Go.RowKit Go.ChangeMaps

theorem rt_node : Try.prog.readableRec 54 = true := by kernel_rfl
theorem lt_node : 54 < Try.prog.types.size := of_decide_eq_true (by kernel_rfl)
theorem rt_string : Try.prog.readableRec 9 = true := by kernel_rfl
theorem lt_string : 9 < Try.prog.types.size := of_decide_eq_true (by kernel_rfl)

set_option maxRecDepth 100000 in
theorem open_node {H : Type} {enc : TypeId × Value → H} {W : World} {base : Nat} {v : Value} {d : DataW H} {p : List MemPlace} (hval : Value.okWide Try.prog W .any base 54 v)
    (h : DataW.Trod enc Try.prog W 0 (fun _ => true) true 54 v d p) : ∃ t av kv, v = nodeV t av kv ∧ NodeOf W t av kv ∧ TrOk t := by
  obtain ⟨fuel, hf⟩ := h
  obtain ⟨⟨t, av, kv⟩, hcs, hok, ho2⟩ := opens_node _ _ _ hf
  refine ⟨t, av, kv, ?_, hok, ho2⟩
  simp only [Value.okWide, Try.underlying54] at hval
  obtain ⟨cs, rfl, -⟩ := hval
  simp only [Value.cells] at hcs
  show Value.agg cs = Value.agg (trC (t, av, kv)).toArray
  rw [← hcs]

set_option maxRecDepth 100000 in
theorem treeStays_lifted (os : Os) (started : os.Started) (H : Type) (enc : TypeId × Value → H) :
    ReturnsInHanded {} Try.checked os 17 .any (Rows.treeStaysSpec.pre6 enc Try.prog Try.f17 Rows.treeStaysRow.domain false) (Rows.treeStaysSpec.post enc Try.prog Try.f17 false true false false) := by
  refine returnsInHanded_of_change_shaped (C := Try.checked) own started (by kernel_rfl) Try.func17
    (ChangeSpec.witness6 (enc := enc) (C := Try.checked) false ⟨#[], #[.string .empty], []⟩ 8 (by kernel_rfl) (by kernel_rfl) (by kernel_rfl) (by kernel_rfl)) ?_
  intro W base args ds gs before hval0 hW hcnd _ hsh _
  have hval : ∀ (j : Nat) t v, Try.f17.params[j]? = some t → args[j]? = some v → Value.okWide Try.prog W .any base t v := hval0
  have hW' := hW
  obtain ⟨p, q, hA0, hV, rfl, hfz, hnd⟩ := hW
  have hA : DataW.TrodAll enc Try.prog W 0 (fun _ => true) true Try.f17.params.toList args.toList ds p := hA0
  have hA' := hA
  rw [Try.params17] at hA hval
  obtain ⟨v0, d0, rfl, rfl, h0⟩ := trodAll_one hA
  obtain ⟨rfl, rfl⟩ := trodVars_none hV
  obtain ⟨s0, rfl, rfl, -, ws0⟩ := open_string Try.underlying9 (hval 0 9 v0 rfl rfl) h0
  clear hA0 hval0
  obtain ⟨m, hm⟩ : ∃ m, W.cell? ⟨0, 0, none⟩ = some (.int .i64 m) := Try.laysM143.s1_3 W hsh
  have hlt : ∀ x ∈ p, x.block < W.heap.size := fun x hx => hW'.lt x (by simpa using hx)
  refine (treeStaysLaw_any s0 m W hm).mono fun en W' ⟨he, hb⟩ => ?_
  subst he
  refine ⟨_, rfl, _, _, _, [], p, [], hW', trodAll_mk1 (shut_bool Try.underlying4 _), trodAll_below hb ?_ hA' hlt, rfl, hb.frame _, fun h => by cases h⟩
  rw [Try.params17]
  intro t ht
  simp at ht
  subst ht
  exact ⟨rt_string, lt_string⟩

theorem treeStays_holds : Rows.TreeStaysSaid :=
  OpenClaim.holds_of_wide 17 Try.f17 rfl rfl rfl rfl rfl rfl rfl ⟨rfl, rfl, rfl, rfl, rfl⟩ rfl rfl rfl rfl rfl (by kernel_rfl) Try.func17 (by kernel_rfl)
    (of_decide_eq_true (by kernel_rfl)) (by unfold Func.isWrapper; rw [if_neg (of_decide_eq_false (by kernel_rfl))]; exact ⟨rfl, rfl⟩)
    (fun os started H enc _ => treeStays_lifted os started H enc)

#print axioms treeStays_holds

end Go.Proofs.Ytpchljiiappmnaa
