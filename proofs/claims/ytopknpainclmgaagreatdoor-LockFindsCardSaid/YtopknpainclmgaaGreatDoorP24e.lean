/- Whatever the lock and the key, the law LockFinds returns true, and its arguments read behind the call as before; the card ties the library variables that the row lists; no conditions. -/
import Derived.Test.YtopknpainclmgaaGreatDoorD24
import Derived.Test.YtopknpainclmgaaGreatDoorDLaw
import Derived.Test.YtopknpainclmgaaGreatDoorLOpen
import Derived.Test.YtopknpainclmgaaGreatDoorD25
import Derived.Test.YtopknpainclmgaaGreatDoorTie
import Derived.Test.YtopknpainclmgaaGreatDoorCards
import Derived.SevenTiedAt
namespace Go.Proofs.YtopknpainclmgaaGreatDoor
open Go Go.ChangeShapes Go.WideShapes Go.ChangeAt Go.RowKit Go.ChangeMaps

theorem rt_lock : Tryz.prog.readableRec 26 = true := by kernel_rfl
theorem lt_lock : 26 < Tryz.prog.types.size := of_decide_eq_true (by kernel_rfl)
theorem rt_key : Tryz.prog.readableRec 28 = true := by kernel_rfl
theorem lt_key : 28 < Tryz.prog.types.size := of_decide_eq_true (by kernel_rfl)
set_option maxRecDepth 100000 in
theorem open_lockE {H : Type} {enc : TypeId × Value → H} {W : World} {base : Nat} {v : Value} {d : DataW H} {p : List MemPlace} (hval : Value.okWide Tryz.prog W .any base 26 v)
    (h : DataW.Trod enc Tryz.prog W 0 (fun _ => true) true 26 v d p) : ∃ q : Lock × Value, v = .agg (lockC q.1 q.2).toArray ∧ SliceOf 6 pinC W q.2 q.1.pins ∧ lockSm q.1 := by
  obtain ⟨fuel, hf⟩ := h
  obtain ⟨q, hcs, hok⟩ := opens_lockE _ _ _ hf
  refine ⟨q, ?_, hok⟩
  simp only [Value.okWide, Tryz.underlying26] at hval
  obtain ⟨cs, rfl, -⟩ := hval
  simp only [Value.cells] at hcs
  rw [← hcs]
set_option maxRecDepth 100000 in
theorem open_keyE {H : Type} {enc : TypeId × Value → H} {W : World} {base : Nat} {v : Value} {d : DataW H} {p : List MemPlace} (hval : Value.okWide Tryz.prog W .any base 28 v)
    (h : DataW.Trod enc Tryz.prog W 0 (fun _ => true) true 28 v d p) : ∃ q : Key, v = .agg (keyC q).toArray ∧ keySm q := by
  obtain ⟨fuel, hf⟩ := h
  obtain ⟨q, hcs, hok⟩ := opens_keyE _ _ _ hf
  refine ⟨q, ?_, hok⟩
  simp only [Value.okWide, Tryz.underlying28] at hval
  obtain ⟨cs, rfl, -⟩ := hval
  simp only [Value.cells] at hcs
  rw [← hcs]

set_option maxRecDepth 100000 in
theorem lockFinds_lifted (os : Os) (started : os.Started) (H : Type) (enc : TypeId × Value → H) :
    ReturnsInHanded {} Tryz.checked os 3 .any (fun w args => (Rows.lockFindsSpec.pre enc Tryz.prog Tryz.f3 Rows.lockFindsRow.domain false w args ∧ laidMetH Tryz.prog laidL w) ∧ sizedMet enc Tryz.prog Tryz.f3 (OpenSpec.ofChange Rows.lockFindsSpec) false w args)
      (Rows.lockFindsSpec.post enc Tryz.prog Tryz.f3 false true false false) := by
  refine handed_tied (C := Tryz.checked) (X := fun w _ => laidMetH Tryz.prog laidL w) own started (by kernel_rfl) Tryz.func3
    (ChangeSpec.witness_shaped (enc := enc) (C := Tryz.checked) (os := os) (X := fun w _ => laidMetH Tryz.prog laidL w) false (World.laidAll Tryz.prog os laidL) #[.agg #[.string .empty, .string .empty, .string .empty, .slice none 0 0], .agg #[.string .empty, .string .empty, .string .empty, .string .empty]] 8 (World.laidAll_os _ _ _)
      (World.shaped_of_ZipB (by kernel_rfl) (by kernel_rfl)) (by kernel_rfl) (by kernel_rfl) (by kernel_rfl)
      (by rw [MakeChecks.laidMetH_plain _ _ _ (by kernel_rfl)]; exact laidMet_laidAll _ (by kernel_rfl) (by kernel_rfl))) ?_
  intro W base args ds gs before hval0 hW _ hsh
  have hval : ∀ (j : Nat) t v, Tryz.f3.params[j]? = some t → args[j]? = some v → Value.okWide Tryz.prog W .any base t v := hval0
  have hW' := hW
  obtain ⟨p, q, hA0, hV, rfl, hfz, hnd⟩ := hW
  have hA : DataW.TrodAll enc Tryz.prog W 0 (fun _ => true) true Tryz.f3.params.toList args.toList ds p := hA0
  have hA' := hA
  rw [Tryz.params3] at hA hval
  obtain ⟨v0, v1, d0, d1, p0, p1, rfl, rfl, rfl, h0, h1⟩ := trodAll_two hA
  obtain ⟨rfl, rfl⟩ := trodVars_none hV
  obtain ⟨⟨a, av⟩, rfl, ha, -⟩ := open_lockE (hval 0 26 v0 rfl rfl) h0
  obtain ⟨k, rfl, -⟩ := open_keyE (hval 1 28 v1 rfl rfl) h1
  clear hA0 hval0
  obtain ⟨m, hm⟩ : ∃ m, W.cell? ⟨0, 0, none⟩ = some (.int .i64 m) := Tryz.laysM143.s1_3 W hsh
  have hlt : ∀ x ∈ p0 ++ p1, x.block < W.heap.size := fun x hx => by simpa using hW'.lt x (by simpa using hx)
  refine (lockFinds_any a av k m W hm ha).mono fun en W' ⟨he, hb⟩ => ?_
  subst he
  refine ⟨_, rfl, _, _, _, [], p0 ++ p1, [], hW', trodAll_mk1 (shut_bool Tryz.underlying4 _), trodAll_below hb ?_ hA' hlt, rfl, hb.frame _, fun h => by cases h⟩
  rw [Tryz.params3]
  intro t ht
  simp at ht
  rcases ht with rfl | rfl
  · exact ⟨rt_lock, lt_lock⟩
  · exact ⟨rt_key, lt_key⟩

theorem lockFinds_row : Rows.LockFindsSaid :=
  OpenClaim.holds_of_wide 3 Tryz.f3 rfl rfl rfl rfl rfl rfl rfl ⟨rfl, rfl, rfl, rfl, rfl⟩ rfl rfl rfl rfl rfl (by kernel_rfl) Tryz.func3 lockFinds_facts
    (of_decide_eq_true (by kernel_rfl)) (by unfold Func.isWrapper; rw [if_neg (of_decide_eq_false (by kernel_rfl))]; exact ⟨rfl, rfl⟩)
    (fun os started H enc _ => lockFinds_lifted os started H enc)

theorem lockFinds_holds : Rows.LockFindsCardSaid :=
  Claim7.holds_tied_plain_at .later [] [.data, .pinned] true (true, "84c3d6d09ef9f03cb9167d2528072917b99d5d2576e7ca86451998fb71c25ecd") true
    lockFinds_row (fun _ h => by cases h) (by kernel_rfl) (fun _ h => by cases h) lockFinds_row_tie rfl ⟨rfl, rfl⟩ (by kernel_rfl) rfl
    (fun f fn hf hfn => by
      obtain rfl : f = 3 := Option.some.inj ((show Tryz.prog.funcNamed "pomace/pomacelaw24.LockFinds" = some 3 by kernel_rfl).symm.trans hf) |>.symm
      obtain rfl : fn = Tryz.f3 := (Option.some.inj (Tryz.func3.symm.trans hfn)).symm
      exact ⟨by kernel_rfl, fun j t ht => by
        rw [Tryz.params3] at ht
        have hm : t ∈ [26, 28] := by simpa using Array.mem_of_getElem? ht
        have hall : ([26, 28].all fun u => !Tryz.prog.wantsStandIn u) = true := by kernel_rfl
        exact (show Tryz.prog.wantsStandIn t = false by simpa using List.all_eq_true.1 hall t hm)⟩)
    (by kernel_rfl)

#print axioms lockFinds_holds

end Go.Proofs.YtopknpainclmgaaGreatDoor
