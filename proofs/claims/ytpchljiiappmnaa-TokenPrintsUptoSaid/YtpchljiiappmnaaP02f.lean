/- Where the input is of bulk at most 1048576, the law TokenPrints returns true, and its argument reads behind the call as before. -/
import Derived.Test.YtpchljiiappmnaaKBulk
import Derived.Test.YtpchljiiappmnaaKLaw
import Derived.HandedShaped
import Derived.JoinedCond
namespace Go.Proofs.Ytpchljiiappmnaa
open Go Go.ChangeShapes Go.WideShapes Go.ChangeAt Go.RowKit Go.ChangeMaps

theorem rt_tokens : Try.prog.readableRec 23 = true := by kernel_rfl
theorem lt_tokens : 23 < Try.prog.types.size := of_decide_eq_true (by kernel_rfl)

set_option maxRecDepth 100000 in
theorem tokenPrints_lifted (os : Os) (started : os.Started) (H : Type) (enc : TypeId × Value → H) (F : Stop.Interp) :
    ReturnsInHanded {} Try.checked os 9 .any ((Rows.OpenSpec.upto Rows.tokenPrintsSpec).pre6 enc Try.prog Try.f9 Rows.tokenPrintsUptoRow.domain false) (((Rows.OpenSpec.upto Rows.tokenPrintsSpec).at F).post enc Try.prog Try.f9 false true false false) := by
  refine handed_upto (C := Try.checked) (s := Rows.OpenSpec.upto Rows.tokenPrintsSpec) (k := Rows.uptoSmall) rfl own started (by kernel_rfl) Try.func9
    (OpenSpec.witness (enc := enc) (C := Try.checked) (s := Rows.OpenSpec.upto Rows.tokenPrintsSpec) (k := Rows.uptoSmall) rfl false ⟨#[], #[.slice none 0 0], []⟩ 8 (by kernel_rfl) (by kernel_rfl) (by kernel_rfl)
      (x := ([.nil], [], [])) (by kernel_rfl) rfl (by kernel_rfl)) ?_
  intro W base args ds gs before hval0 hW hk hsh
  have hval : ∀ (j : Nat) t v, Try.f9.params[j]? = some t → args[j]? = some v → Value.okWide Try.prog W .any base t v := hval0
  have hW' := hW
  obtain ⟨p, q, hA0, hV, rfl, hfz, hnd⟩ := hW
  have hA : DataW.TrodAll enc Try.prog W 0 (fun _ => true) true Try.f9.params.toList args.toList ds p := hA0
  have hA' := hA
  rw [Try.params9] at hA hval
  obtain ⟨v0, d0, rfl, rfl, h0⟩ := trodAll_one hA
  obtain ⟨rfl, rfl⟩ := trodVars_none hV
  have hbk : Rows.uptoBulk d0 ≤ 1048576 := by
    have h1 : Rows.uptoBulkAll ([d0] ++ []) ≤ 1048576 := of_decide_eq_true hk
    simp only [List.append_nil, Rows.uptoBulkAll] at h1
    omega
  obtain ⟨L, hL, hsz, hz⟩ := tokens_in (hval 0 23 v0 rfl rfl) h0 hbk
  clear hA0 hval0
  obtain ⟨m, hm⟩ : ∃ m, W.cell? ⟨0, 0, none⟩ = some (.int .i64 m) := Try.laysM143.s1_3 W hsh
  have hlt : ∀ x ∈ p, x.block < W.heap.size := fun x hx => hW'.lt x (by simpa using hx)
  refine (prints_any v0 L m W hm hL hsz hz).mono fun en W' ⟨he, hb⟩ => ?_
  subst he
  refine ⟨_, rfl, _, _, _, [], p, [], hW', trodAll_mk1 (shut_bool Try.underlying4 _), trodAll_below hb ?_ hA' hlt, rfl, hb.frame _, fun h => by cases h⟩
  rw [Try.params9]
  intro t ht
  simp at ht
  subst ht
  exact ⟨rt_tokens, lt_tokens⟩

theorem tokenPrints_holds : Rows.TokenPrintsUptoSaid :=
  OpenClaim.holds_of_cond 9 Try.f9 rfl rfl rfl rfl rfl rfl rfl ⟨rfl, rfl, rfl, rfl, rfl⟩ rfl rfl rfl rfl rfl (by kernel_rfl) Try.func9 (by kernel_rfl)
    (of_decide_eq_true (by kernel_rfl)) (by unfold Func.isWrapper; rw [if_neg (of_decide_eq_false (by kernel_rfl))]; exact ⟨rfl, rfl⟩)
    (fun os started H enc _ F => tokenPrints_lifted os started H enc F)

#print axioms tokenPrints_holds

end Go.Proofs.Ytpchljiiappmnaa
