/- Whatever the projects, the id and the name, the law StorePuts returns true, and its arguments read behind the call as before; the card ties the library variables that the row lists; no conditions. -/
import Derived.Test.YtominiaohfjobaaGreatDoorPT05
import Derived.Test.YtominiaohfjobaaGreatDoorPT06
import Derived.Test.YtominiaohfjobaaGreatDoorPK18
import Derived.Test.YtominiaohfjobaaGreatDoorPT08
import Derived.Shelf.Vars
import Derived.Test.YtominiaohfjobaaGreatDoorPT07
import Derived.Test.YtominiaohfjobaaGreatDoorTie
import Derived.Test.YtominiaohfjobaaGreatDoorCards
import Derived.SevenTiedAt
namespace Go.Proofs.YtominiaohfjobaaGreatDoor
open Go Go.ChangeShapes Go.WideShapes Go.ChangeAt Go.RowKit Go.ChangeMaps
theorem rt_insstorePuts:Tryz.prog.readableRec 22=true:=by kernel_rfl
theorem lt_insstorePuts:22<Tryz.prog.types.size:=of_decide_eq_true (by kernel_rfl)
theorem rt_idstorePuts:Tryz.prog.readableRec 24=true:=by kernel_rfl
theorem lt_idstorePuts:24<Tryz.prog.types.size:=of_decide_eq_true (by kernel_rfl)
theorem rt_gavstorePuts:Tryz.prog.readableRec 26=true:=by kernel_rfl
theorem lt_gavstorePuts:26<Tryz.prog.types.size:=of_decide_eq_true (by kernel_rfl)
theorem maxCell (w:World) (h:w.ShapedOpen Tryz.prog) : ∃ m,w.cell? ⟨0,0,none⟩=some (.int .i64 m):=Go.Proofs.cell_of_shapedOpen_int (zero:=#[.int .i64 0]) (t:=3) h (of_decide_eq_true (by kernel_rfl)) (by kernel_rfl) rfl (by kernel_rfl) (by kernel_rfl) Tryz.underlying3
set_option maxRecDepth 100000 in
theorem storePuts_lifted (os:Os) (started:os.Started) (H:Type) (enc:TypeId × Value→H) :
    ReturnsInHanded {} Tryz.checked os 3 .any (fun w args=>(Rows.storePutsSpec.pre enc Tryz.prog Tryz.f3 Rows.storePutsRow.domain false w args∧laidMetH Tryz.prog B4 w)∧sizedMet enc Tryz.prog Tryz.f3 (OpenSpec.ofChange Rows.storePutsSpec) false w args)
     (Rows.storePutsSpec.post enc Tryz.prog Tryz.f3 false true false false):=by
 refine A4 (C:=Tryz.checked) (X:=fun w _=>laidMetH Tryz.prog B4 w) own started (by kernel_rfl) Tryz.func3
  (ChangeSpec.witness_shaped (enc:=enc) (C:=Tryz.checked) (os:=os) (X:=fun w _=>laidMetH Tryz.prog B4 w) false (World.laidAll Tryz.prog os B4) #[.slice none 0 0,.agg #[.string .empty,.string .empty],.agg #[.string .empty,.string .empty,.string .empty]] 8 (World.laidAll_os _ _ _)
   (World.shaped_of_ZipB (by kernel_rfl) (by kernel_rfl)) (by kernel_rfl) (by kernel_rfl) (by kernel_rfl)
   (by rw [MakeChecks.laidMetH_plain _ _ _ (by kernel_rfl)]; exact laidMet_laidAll _ (by kernel_rfl) (by kernel_rfl))) ?_
 intro W base args ds gs before hval0 hW _ hsh;have hval : ∀ (j:Nat) t v,Tryz.f3.params[j]? = some t→args[j]? = some v→Value.okWide Tryz.prog W .any base t v:=hval0;have hW':=hW;obtain ⟨p,q,hA0,hV,rfl,hfz,hnd⟩:=hW;have hA:DataW.TrodAll enc Tryz.prog W 0 (fun _=>true) true Tryz.f3.params.toList args.toList ds p:=hA0;have hA':=hA;rw [Tryz.params3] at hA hval;obtain ⟨v0,v1,v2,d0,d1,d2,p0,p1,p2,rfl,rfl,rfl,h0,h1,h2⟩:=trodAll_three hA;obtain ⟨rfl,rfl⟩:=trodVars_none hV;obtain ⟨l,hs,hz⟩:=open_ins (hval 0 22 v0 rfl rfl) h0;obtain ⟨x,rfl⟩:=open_id (hval 1 24 v1 rfl rfl) h1;obtain ⟨g,rfl⟩:=open_gavP (hval 2 26 v2 rfl rfl) h2;obtain ⟨m,hm⟩:=maxCell W hsh;clear hA0 hval0;have hlt : ∀ x ∈ p0 ++ p1 ++ p2,x.block<W.heap.size:=fun x hx=>by simpa using hW'.lt x (by simpa using hx)
 refine (storePuts_law Ai (fun g w h=>zJ g w h) v0 l x g m W hs hz hm).mono fun en W' ⟨he,hb⟩=>?_
 subst he;refine ⟨_,rfl,_,_,_,[],p0 ++ p1 ++ p2,[],hW',trodAll_mk1 (shut_bool Tryz.underlying4 _),oS hb ?_ hA' hlt,rfl,hb.frame _,fun h=>by cases h⟩
 rw [Tryz.params3];intro t ht;simp at ht;rcases ht with rfl | rfl | rfl
 · exact ⟨rt_insstorePuts,lt_insstorePuts⟩
 · exact ⟨rt_idstorePuts,lt_idstorePuts⟩
 · exact ⟨rt_gavstorePuts,lt_gavstorePuts⟩
theorem storePuts_row:Rows.StorePutsSaid :=
 OpenClaim.holds_of_wide 3 Tryz.f3 rfl rfl rfl rfl rfl rfl rfl ⟨rfl,rfl,rfl,rfl,rfl⟩ rfl rfl rfl rfl rfl (by kernel_rfl) Tryz.func3 storePuts_facts
  (of_decide_eq_true (by kernel_rfl)) (by unfold Func.isWrapper; rw [if_neg (of_decide_eq_false (by kernel_rfl))]; exact ⟨rfl,rfl⟩)
  (fun os started H enc _=>storePuts_lifted os started H enc)
theorem storePuts_holds:Rows.StorePutsCardSaid :=
 Claim7.holds_tied_plain_at .later [] [.data, .pinned] true (true, "293cdd7a626ad9ffb9a0b45a6c8217e9932a8816412dd8f6c37490fbe382a2e3") true
  storePuts_row (fun _ h=>by cases h) (by kernel_rfl) (fun _ h=>by cases h) storePuts_row_tie rfl ⟨rfl,rfl⟩ (by kernel_rfl) rfl
  (fun f fn hf hfn=>by
   obtain rfl : f = 3 := Option.some.inj ((show Tryz.prog.funcNamed "pomace/pomacelaw09.StorePuts" = some 3 by kernel_rfl).symm.trans hf) |>.symm;obtain rfl:fn=Tryz.f3:=(Option.some.inj (Tryz.func3.symm.trans hfn)).symm
   exact ⟨by kernel_rfl,fun j t ht=>by
    rw [Tryz.params3] at ht;have hm:t ∈ [22,24,26]:=by simpa using Array.mem_of_getElem? ht
    have hall:([22,24,26].all fun u=>!Tryz.prog.wantsStandIn u)=true:=by kernel_rfl
    exact (show Tryz.prog.wantsStandIn t=false by simpa using List.all_eq_true.1 hall t hm)⟩)
  (by kernel_rfl)
#print axioms storePuts_holds
end Go.Proofs.YtominiaohfjobaaGreatDoor
