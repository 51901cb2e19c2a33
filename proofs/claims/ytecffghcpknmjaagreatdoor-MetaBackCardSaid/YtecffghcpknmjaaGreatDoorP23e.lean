/- Whatever the Meta, the law MetaBack returns true, and its arguments read behind the call as before; the card ties the library variables that the row lists; no conditions. -/
import Derived.Test.YtecffghcpknmjaaGreatDoorV52
import Derived.Test.YtecffghcpknmjaaGreatDoorV10
import Derived.Test.YtecffghcpknmjaaGreatDoorVFe
import Derived.Shelf.Vars
import Derived.Test.YtecffghcpknmjaaGreatDoorJK13
import Derived.Test.YtecffghcpknmjaaGreatDoorTie
import Derived.Test.YtecffghcpknmjaaGreatDoorCards
import Derived.SevenTiedAt
namespace Go.Proofs.YtecffghcpknmjaaGreatDoor
open Go Go.ChangeShapes Go.WideShapes Go.ChangeAt Go.RowKit Go.ChangeMaps

theorem rt_metametaBack : Tryz.prog.readableRec 26 = true := by kernel_rfl
theorem lt_metametaBack : 26 < Tryz.prog.types.size := of_decide_eq_true (by kernel_rfl)

theorem maxCell (w : World) (h : w.ShapedOpen Tryz.prog) : ∃ m, w.cell? ⟨0, 0, none⟩ = some (.int .i64 m) := Go.Proofs.cell_of_shapedOpen_int (zero := #[.int .i64 0]) (t := 3) h (of_decide_eq_true (by kernel_rfl)) (by kernel_rfl) rfl (by kernel_rfl) (by kernel_rfl) Tryz.underlying3
set_option maxRecDepth 100000 in
theorem metaBack_lifted (os : Os) (started : os.Started) (H : Type) (enc : TypeId × Value → H) :
    ReturnsInHanded {} Tryz.checked os 3 .any (fun w args => (Rows.metaBackSpec.pre enc Tryz.prog Tryz.f3 Rows.metaBackRow.domain false w args ∧ laidMetH Tryz.prog laidL w) ∧ sizedMet enc Tryz.prog Tryz.f3 (OpenSpec.ofChange Rows.metaBackSpec) false w args)
      (Rows.metaBackSpec.post enc Tryz.prog Tryz.f3 false true false false) := by
  refine handed_tied (C := Tryz.checked) (X := fun w _ => laidMetH Tryz.prog laidL w) own started (by kernel_rfl) Tryz.func3
    (ChangeSpec.witness_shaped (enc := enc) (C := Tryz.checked) (os := os) (X := fun w _ => laidMetH Tryz.prog laidL w) false (World.laidAll Tryz.prog os laidL) #[.agg #[.string .empty, .string .empty, .slice none 0 0, .string .empty, .string .empty]] 8 (World.laidAll_os _ _ _)
      (World.shaped_of_ZipB (by kernel_rfl) (by kernel_rfl)) (by kernel_rfl) (by kernel_rfl) (by kernel_rfl)
      (by rw [MakeChecks.laidMetH_plain _ _ _ (by kernel_rfl)]; exact laidMet_laidAll _ (by kernel_rfl) (by kernel_rfl))) ?_
  intro W base args ds gs before hval0 hW _ hsh
  have hval : ∀ (j : Nat) t v, Tryz.f3.params[j]? = some t → args[j]? = some v → Value.okWide Tryz.prog W .any base t v := hval0
  have hW' := hW
  obtain ⟨p, q, hA0, hV, rfl, hfz, hnd⟩ := hW
  have hA : DataW.TrodAll enc Tryz.prog W 0 (fun _ => true) true Tryz.f3.params.toList args.toList ds p := hA0
  have hA' := hA
  rw [Tryz.params3] at hA hval
  obtain ⟨v0, d0, rfl, rfl, h0⟩ := trodAll_one hA
  obtain ⟨rfl, rfl⟩ := trodVars_none hV
  obtain ⟨a, av, rfl, ha, -⟩ := open_meta (hval 0 26 v0 rfl rfl) h0
  obtain ⟨m, hm⟩ := maxCell W hsh
  clear hA0 hval0
  have hlt : ∀ x ∈ p, x.block < W.heap.size := fun x hx => by simpa using hW'.lt x (by simpa using hx)
  refine (metaBack_of refParts_any a av m W ha hm).mono fun en W' ⟨he, hb⟩ => ?_
  subst he
  refine ⟨_, rfl, _, _, _, [], p, [], hW', trodAll_mk1 (shut_bool Tryz.underlying4 _), trodAll_below hb ?_ hA' hlt, rfl, hb.frame _, fun h => by cases h⟩
  rw [Tryz.params3]
  intro t ht
  simp at ht
  rcases ht with rfl
  · exact ⟨rt_metametaBack, lt_metametaBack⟩

theorem metaBack_row : Rows.MetaBackSaid :=
  OpenClaim.holds_of_wide 3 Tryz.f3 rfl rfl rfl rfl rfl rfl rfl ⟨rfl, rfl, rfl, rfl, rfl⟩ rfl rfl rfl rfl rfl (by kernel_rfl) Tryz.func3 metaBack_facts
    (of_decide_eq_true (by kernel_rfl)) (by unfold Func.isWrapper; rw [if_neg (of_decide_eq_false (by kernel_rfl))]; exact ⟨rfl, rfl⟩)
    (fun os started H enc _ => metaBack_lifted os started H enc)

theorem metaBack_holds : Rows.MetaBackCardSaid :=
  Claim7.holds_tied_plain_at .later [] [.data, .pinned] true (true, "d8cd48f99d0a67bdf8b04858c9d562252fa0d910e439b3765053ffd049deae84") true
    metaBack_row (fun _ h => by cases h) (by kernel_rfl) (fun _ h => by cases h) metaBack_row_tie rfl ⟨rfl, rfl⟩ (by kernel_rfl) rfl
    (fun f fn hf hfn => by
      obtain rfl : f = 3 := Option.some.inj ((show Tryz.prog.funcNamed "pomace/pomacelaw23.MetaBack" = some 3 by kernel_rfl).symm.trans hf) |>.symm
      obtain rfl : fn = Tryz.f3 := (Option.some.inj (Tryz.func3.symm.trans hfn)).symm
      exact ⟨by kernel_rfl, fun j t ht => by
        rw [Tryz.params3] at ht
        have hm : t ∈ [26] := by simpa using Array.mem_of_getElem? ht
        have hall : ([26].all fun u => !Tryz.prog.wantsStandIn u) = true := by kernel_rfl
        exact (show Tryz.prog.wantsStandIn t = false by simpa using List.all_eq_true.1 hall t hm)⟩)
    (by kernel_rfl)

#print axioms metaBack_holds

end Go.Proofs.YtecffghcpknmjaaGreatDoor
