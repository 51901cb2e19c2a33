/- Whatever the input, the law TreeLimits returns true, and its arguments read behind the call as before; no conditions. -/
import Derived.Test.YtpchljiiappmnaaG43
import Derived.Test.YtpchljiiappmnaaG24
import Derived.HandedShaped
namespace Go.Proofs.Ytpchljiiappmnaa
open Go Go.ChangeShapes Go.WideShapes Go.ChangeAt Go.RowKit Go.ChangeMaps

theorem rt_int : Try.prog.readableRec 3 = true := by kernel_rfl
theorem lt_int : 3 < Try.prog.types.size := of_decide_eq_true (by kernel_rfl)
theorem rt_bool : Try.prog.readableRec 4 = true := by kernel_rfl
theorem lt_bool : 4 < Try.prog.types.size := of_decide_eq_true (by kernel_rfl)

set_option maxRecDepth 100000 in
theorem treeLimits_lifted (os : Os) (started : os.Started) (H : Type) (enc : TypeId × Value → H) :
    ReturnsInHanded {} Try.checked os 13 .any (Rows.treeLimitsSpec.pre6 enc Try.prog Try.f13 Rows.treeLimitsRow.domain false) (Rows.treeLimitsSpec.post enc Try.prog Try.f13 false true false false) := by
  refine returnsInHanded_of_change_shaped (C := Try.checked) own started (by kernel_rfl) Try.func13
    (ChangeSpec.witness6 (enc := enc) (C := Try.checked) false ⟨#[], #[.int .i64 0, .int .i64 0, .bool false], []⟩ 8 (by kernel_rfl) (by kernel_rfl) (by kernel_rfl) (by kernel_rfl)) ?_
  intro W base args ds gs before hval0 hW hcnd _ hsh _
  have hval : ∀ (j : Nat) t v, Try.f13.params[j]? = some t → args[j]? = some v → Value.okWide Try.prog W .any base t v := hval0
  have hW' := hW
  obtain ⟨p, q, hA0, hV, rfl, hfz, hnd⟩ := hW
  have hA : DataW.TrodAll enc Try.prog W 0 (fun _ => true) true Try.f13.params.toList args.toList ds p := hA0
  have hA' := hA
  rw [Try.params13] at hA hval
  obtain ⟨v0, v1, v2, d0, d1, d2, p0, p1, p2, rfl, rfl, rfl, h0, h1, h2⟩ := trodAll_three hA
  obtain ⟨rfl, rfl⟩ := trodVars_none hV
  obtain ⟨x0, rfl, rfl, rfl, wx0⟩ := open_int Try.underlying3 (hval 0 3 v0 rfl rfl) h0
  obtain ⟨x1, rfl, rfl, rfl, wx1⟩ := open_int Try.underlying3 (hval 1 3 v1 rfl rfl) h1
  obtain ⟨x2, rfl, rfl, rfl⟩ := open_bool Try.underlying4 (hval 2 4 v2 rfl rfl) h2
  clear hA0 hval0
  obtain ⟨m, hm⟩ : ∃ m, W.cell? ⟨0, 0, none⟩ = some (.int .i64 m) := Try.laysM143.s1_3 W hsh
  have hlt : ∀ x ∈ (([] : List MemPlace) ++ [] ++ []), x.block < W.heap.size := fun x hx => by simp at hx
  refine (treeLimitsLaw_any x0 x1 x2 m W hm).mono fun en W' ⟨he, hb⟩ => ?_
  subst he
  refine ⟨_, rfl, _, _, _, [], ([] ++ [] ++ []), [], hW', trodAll_mk1 (shut_bool Try.underlying4 _), trodAll_below hb ?_ hA' hlt, rfl, hb.frame _, fun h => by cases h⟩
  rw [Try.params13]
  intro t ht
  obtain rfl | rfl : t = 3 ∨ t = 4 := by simpa using ht
  · exact ⟨rt_int, lt_int⟩
  · exact ⟨rt_bool, lt_bool⟩

theorem treeLimits_holds : Rows.TreeLimitsSaid :=
  OpenClaim.holds_of_wide 13 Try.f13 rfl rfl rfl rfl rfl rfl rfl ⟨rfl, rfl, rfl, rfl, rfl⟩ rfl rfl rfl rfl rfl (by kernel_rfl) Try.func13 (by kernel_rfl)
    (of_decide_eq_true (by kernel_rfl)) (by unfold Func.isWrapper; rw [if_neg (of_decide_eq_false (by kernel_rfl))]; exact ⟨rfl, rfl⟩)
    (fun os started H enc _ => treeLimits_lifted os started H enc)

#print axioms treeLimits_holds

end Go.Proofs.Ytpchljiiappmnaa
