/- Whatever the input, the law TreeAsks returns true, and its arguments read behind the call as before; no conditions. -/
import Derived.Test.YtpchljiiappmnaaG23
import Derived.Test.YtpchljiiappmnaaG24
import Derived.HandedShaped
namespace Go.Proofs.Ytpchljiiappmnaa
open Go Go.ChangeShapes Go.WideShapes Go.ChangeAt Go.RowKit Go.ChangeMaps

theorem rt_node : Try.prog.readableRec 54 = true := by kernel_rfl
theorem lt_node : 54 < Try.prog.types.size := of_decide_eq_true (by kernel_rfl)
theorem rt_string : Try.prog.readableRec 9 = true := by kernel_rfl
theorem lt_string : 9 < Try.prog.types.size := of_decide_eq_true (by kernel_rfl)

theorem treeAsks_str (t : Tr) (s : S) (mx : Int) (w : World) (av kv : Value) (ht : NodeOf w t av kv) (hm : w.cell? ⟨0, 0, none⟩ = some (.int .i64 mx)) :
    Calls Try.prog 14 #[nodeV t av kv, .string s] w fun e w' => e = .returned (.bool true) ∧ Below w.heap.size w w' := by
  have h := treeAsks_any t s.data.toList mx w av kv ht hm
  rwa [data_bs] at h

set_option maxRecDepth 100000 in
theorem open_node {H : Type} {enc : TypeId × Value → H} {W : World} {base : Nat} {v : Value} {d : DataW H} {p : List MemPlace} (hval : Value.okWide Try.prog W .any base 54 v)
    (h : DataW.Trod enc Try.prog W 0 (fun _ => true) true 54 v d p) : ∃ t av kv, v = nodeV t av kv ∧ NodeOf W t av kv ∧ TrOk t := by
  obtain ⟨fuel, hf⟩ := h
  obtain ⟨⟨t, av, kv⟩, hcs, hok, ho2⟩ := opens_node _ _ _ hf
  refine ⟨t, av, kv, ?_, hok, ho2⟩
  simp only [Value.okWide, Try.underlying54] at hval
  obtain ⟨cs, rfl, -⟩ := hval
  simp only [Value.cells] at hcs
  show Value.agg cs = Value.agg (trC (t, av, kv)).toArray
  rw [← hcs]

set_option maxRecDepth 100000 in
theorem treeAsks_lifted (os : Os) (started : os.Started) (H : Type) (enc : TypeId × Value → H) :
    ReturnsInHanded {} Try.checked os 14 .any (Rows.treeAsksSpec.pre6 enc Try.prog Try.f14 Rows.treeAsksRow.domain false) (Rows.treeAsksSpec.post enc Try.prog Try.f14 false true false false) := by
  refine returnsInHanded_of_change_shaped (C := Try.checked) own started (by kernel_rfl) Try.func14
    (ChangeSpec.witness6 (enc := enc) (C := Try.checked) false ⟨#[], #[.agg #[.string .empty, .slice none 0 0, .slice none 0 0, .string .empty], .string .empty], []⟩ 8 (by kernel_rfl) (by kernel_rfl) (by kernel_rfl) (by kernel_rfl)) ?_
  intro W base args ds gs before hval0 hW hcnd _ hsh _
  have hval : ∀ (j : Nat) t v, Try.f14.params[j]? = some t → args[j]? = some v → Value.okWide Try.prog W .any base t v := hval0
  have hW' := hW
  obtain ⟨p, q, hA0, hV, rfl, hfz, hnd⟩ := hW
  have hA : DataW.TrodAll enc Try.prog W 0 (fun _ => true) true Try.f14.params.toList args.toList ds p := hA0
  have hA' := hA
  rw [Try.params14] at hA hval
  obtain ⟨v0, v1, d0, d1, p0, p1, rfl, rfl, rfl, h0, h1⟩ := trodAll_two hA
  obtain ⟨rfl, rfl⟩ := trodVars_none hV
  obtain ⟨t0, av0, kv0, rfl, hn0, ho0⟩ := open_node (hval 0 54 v0 rfl rfl) h0
  obtain ⟨s1, rfl, rfl, -, ws1⟩ := open_string Try.underlying9 (hval 1 9 v1 rfl rfl) h1
  clear hA0 hval0
  obtain ⟨m, hm⟩ : ∃ m, W.cell? ⟨0, 0, none⟩ = some (.int .i64 m) := Try.laysM143.s1_3 W hsh
  have hlt : ∀ x ∈ p0 ++ p1, x.block < W.heap.size := fun x hx => by simpa using hW'.lt x (by simpa using hx)
  refine (treeAsks_str t0 s1 m W av0 kv0 hn0 hm).mono fun en W' ⟨he, hb⟩ => ?_
  subst he
  refine ⟨_, rfl, _, _, _, [], p0 ++ p1, [], hW', trodAll_mk1 (shut_bool Try.underlying4 _), trodAll_below hb ?_ hA' hlt, rfl, hb.frame _, fun h => by cases h⟩
  rw [Try.params14]
  intro t ht
  simp at ht
  rcases ht with rfl | rfl
  · exact ⟨rt_node, lt_node⟩
  · exact ⟨rt_string, lt_string⟩

theorem treeAsks_holds : Rows.TreeAsksSaid :=
  OpenClaim.holds_of_wide 14 Try.f14 rfl rfl rfl rfl rfl rfl rfl ⟨rfl, rfl, rfl, rfl, rfl⟩ rfl rfl rfl rfl rfl (by kernel_rfl) Try.func14 (by kernel_rfl)
    (of_decide_eq_true (by kernel_rfl)) (by unfold Func.isWrapper; rw [if_neg (of_decide_eq_false (by kernel_rfl))]; exact ⟨rfl, rfl⟩)
    (fun os started H enc _ => treeAsks_lifted os started H enc)

#print axioms treeAsks_holds

end Go.Proofs.Ytpchljiiappmnaa
