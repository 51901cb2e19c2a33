/- Whatever the input, the law LockBack returns true, and its arguments read behind the call as before; the card ties the library variables that the row lists; no conditions. -/
import Derived.Test.YtmcjpmogjmnfpaaDoorD22
import Derived.Test.YtmcjpmogjmnfpaaDoorDLawW
import Derived.Test.YtmcjpmogjmnfpaaDoorD21
import Derived.Test.YtmcjpmogjmnfpaaDoorTie
import Derived.Test.YtmcjpmogjmnfpaaDoorCards
import Derived.SevenTiedAt
namespace Go.Proofs.YtmcjpmogjmnfpaaDoor
open Go Go.ChangeShapes Go.WideShapes Go.ChangeAt Go.RowKit Go.ChangeMaps

theorem rt_string : Tryd.prog.readableRec 9 = true := by kernel_rfl
theorem lt_string : 9 < Tryd.prog.types.size := of_decide_eq_true (by kernel_rfl)
theorem rt_uint : Tryd.prog.readableRec 35 = true := by kernel_rfl
theorem lt_uint : 35 < Tryd.prog.types.size := of_decide_eq_true (by kernel_rfl)
theorem rt_lock : Tryd.prog.readableRec 26 = true := by kernel_rfl
theorem lt_lock : 26 < Tryd.prog.types.size := of_decide_eq_true (by kernel_rfl)

set_option maxRecDepth 100000 in
theorem lockBack_lifted (os : Os) (started : os.Started) (H : Type) (enc : TypeId × Value → H) :
    ReturnsInHanded {} Tryd.checked os 4 .any (fun w args => (Rows.lockBackSpec.pre enc Tryd.prog Tryd.f4 Rows.lockBackRow.domain false w args ∧ laidMetH Tryd.prog laidL w) ∧ sizedMet enc Tryd.prog Tryd.f4 (OpenSpec.ofChange Rows.lockBackSpec) false w args)
      (Rows.lockBackSpec.post enc Tryd.prog Tryd.f4 false true false false) := by
  refine handed_tiedW (C := Tryd.checked) (X := fun w _ => laidMetH Tryd.prog laidL w) own started (by kernel_rfl) Tryd.func4
    (ChangeSpec.witness_shaped (enc := enc) (C := Tryd.checked) (os := os) (X := fun w _ => laidMetH Tryd.prog laidL w) false (World.laidAll Tryd.prog os laidL) #[.agg #[.string .empty, .string .empty, .string .empty, .slice none 0 0], .int .u64 0, .string .empty] 8 (World.laidAll_os _ _ _)
      (World.shaped_of_ZipB (by kernel_rfl) (by kernel_rfl)) (by kernel_rfl) (by kernel_rfl) (by kernel_rfl)
      (by rw [MakeChecks.laidMetH_plain _ _ _ (by kernel_rfl)]; exact laidMet_laidAll _ (by kernel_rfl) (by kernel_rfl))) ?_
  intro W base args ds gs before hval0 hW _ hwt hsh
  have hval : ∀ (j : Nat) t v, Tryd.f4.params[j]? = some t → args[j]? = some v → Value.okWide Tryd.prog W .any base t v := hval0
  have hW' := hW
  obtain ⟨p, q, hA0, hV, rfl, hfz, hnd⟩ := hW
  have hA : DataW.TrodAll enc Tryd.prog W 0 (fun _ => true) true Tryd.f4.params.toList args.toList ds p := hA0
  have hA' := hA
  rw [Tryd.params4] at hA hval
  obtain ⟨v0, v1, v2, d0, d1, d2, p0, p1, p2, rfl, rfl, rfl, h0, h1, h2⟩ := trodAll_three hA
  obtain ⟨rfl, rfl⟩ := trodVars_none hV
  rw [Tryd.params4] at hwt
  obtain ⟨a, av, rfl, ha, hza⟩ := open_lockR (hval 0 26 v0 rfl rfl) h0 (WtOk.each hwt (j := 0) rfl rfl)
  obtain ⟨x, rfl, rfl, rfl, wx⟩ := open_int Tryd.underlying35 (hval 1 35 v1 rfl rfl) h1
  obtain ⟨s, rfl, rfl, rfl, ws⟩ := open_string Tryd.underlying9 (hval 2 9 v2 rfl rfl) h2
  have hx : 0 ≤ x ∧ x ≤ 18446744073709551615 := by simpa [Lit.wf, IntKind.min, IntKind.max, IntKind.signed, IntKind.bits] using wx
  clear hA0 hval0
  obtain ⟨m, hm⟩ : ∃ m, W.cell? ⟨0, 0, none⟩ = some (.int .i64 m) := Tryd.laysM143.s1_3 W hsh
  have hlt : ∀ x ∈ p0 ++ [] ++ [], x.block < W.heap.size := fun x hx => by simpa using hW'.lt x (by simpa using hx)
  refine (lockBack_any a av x s m W hm ha (sm_of_Z hza) hx.1 hx.2).mono fun en W' ⟨he, hb⟩ => ?_
  subst he
  refine ⟨_, rfl, _, _, _, [], p0 ++ [] ++ [], [], hW', trodAll_mk1 (shut_bool Tryd.underlying4 _), trodAll_below hb ?_ hA' hlt, rfl, hb.frame _, fun h => by cases h⟩
  rw [Tryd.params4]
  intro t ht
  simp at ht
  rcases ht with rfl | rfl | rfl
  · exact ⟨rt_lock, lt_lock⟩
  · exact ⟨rt_uint, lt_uint⟩
  · exact ⟨rt_string, lt_string⟩

theorem lockBack_row : Rows.LockBackSaid :=
  OpenClaim.holds_of_wide 4 Tryd.f4 rfl rfl rfl rfl rfl rfl rfl ⟨rfl, rfl, rfl, rfl, rfl⟩ rfl rfl rfl rfl rfl (by kernel_rfl) Tryd.func4 (by kernel_rfl)
    (of_decide_eq_true (by kernel_rfl)) (by unfold Func.isWrapper; rw [if_neg (of_decide_eq_false (by kernel_rfl))]; exact ⟨rfl, rfl⟩)
    (fun os started H enc _ => lockBack_lifted os started H enc)

theorem lockBack_holds : Rows.LockBackCardSaid :=
  Claim7.holds_tied_plain_at .later [] [.data, .pinned] true (true, "dfe1286a3613279e91647ea723dc6296b2459481c470f47c1e6f16883107bf66") false
    lockBack_row (fun _ h => by cases h) (by kernel_rfl) (fun _ h => by cases h) lockBack_row_tie rfl ⟨rfl, rfl⟩ (by kernel_rfl) rfl
    (fun f fn hf hfn => by
      obtain rfl : f = 4 := Option.some.inj ((show Tryd.prog.funcNamed "pomace/pomacelaw24.LockBack" = some 4 by kernel_rfl).symm.trans hf) |>.symm
      obtain rfl : fn = Tryd.f4 := (Option.some.inj (Tryd.func4.symm.trans hfn)).symm
      exact ⟨by kernel_rfl, fun j t ht => by
        rw [Tryd.params4] at ht
        have hm : t ∈ [26, 35, 9] := by simpa using Array.mem_of_getElem? ht
        have hall : ([26, 35, 9].all fun u => !Tryd.prog.wantsStandIn u) = true := by kernel_rfl
        exact (show Tryd.prog.wantsStandIn t = false by simpa using List.all_eq_true.1 hall t hm)⟩)
    (by kernel_rfl)

#print axioms lockBack_holds

end Go.Proofs.YtmcjpmogjmnfpaaDoor
