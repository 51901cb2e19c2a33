/- A store that there isn't has nothing; the walk of the law StoreNobody; the conditions stand in the theorems. -/
import Derived.Test.YtphaeegbmfpcgaaGreatDoorFB22
import Derived.Test.YtphaeegbmfpcgaaGreatDoorRows
import Derived.Test.YtphaeegbmfpcgaaGreatDoorFB03
import Derived.Test.YtphaeegbmfpcgaaGreatDoorShelf
import Derived.WalkKit
import Derived.ProofKit
import Derived.OpenShut
import Derived.HandedShaped
import Derived.Lay
import Derived.LaidOnce
import Derived.Test.YtphaeegbmfpcgaaGreatDoorProg
import Derived.Test.YtphaeegbmfpcgaaGreatDoorFB01
import Derived.Deep.Slices
import Derived.Test.YtphaeegbmfpcgaaGreatDoorTie
import Derived.Test.YtphaeegbmfpcgaaGreatDoorCards
import Derived.SevenTiedAt

namespace Go.Proofs.YtphaeegbmfpcgaaGreatDoor
open Go Go.RowKit

set_option maxRecDepth 100000 in
theorem put_nil (g : Gav) (s : S) (w : World) : Calls Tryz.prog 17 #[.pointer none, .agg #[.string g.group, .string g.artifact, .string g.version], .string s] w fun e w' => e = .returned (.int .i64 3) ∧ Below w.heap.size w w' := by
 go_enter Tryz.func17, Tryz.ntmps17
 go_upto_region 1 with fail
 refine wp_world ?_
 intro W hW
 have hb : Below w.heap.size w W := by rw [hW]; exact (Below.refl _ _).alloc (Nat.le_refl _) _
 clear hW
 have HB := Lib.hid hb
 clear hb
 go_wp2
 go_ret
 exact ⟨rfl, HB.out⟩
theorem reads_nil (w : World) : Calls Tryz.prog 19 #[.pointer none] w fun e w' => e = .returned (.int .i64 0) ∧ Below w.heap.size w w' := by
 go_enter Tryz.func19, Tryz.ntmps19
 go_wp2
 go_ret
 exact ⟨rfl, Below.refl _ _⟩
theorem asks_nil (w : World) : Calls Tryz.prog 20 #[.pointer none] w fun e w' => e = .returned (.int .i64 0) ∧ Below w.heap.size w w' := by
 go_enter Tryz.func20, Tryz.ntmps20
 go_wp2
 go_ret
 exact ⟨rfl, Below.refl _ _⟩
set_option maxRecDepth 100000 in
theorem all_nil (w : World) : Calls Tryz.prog 7 #[.pointer none] w fun e w' => e = .returned (.slice none 0 0) ∧ Below w.heap.size w w' := by
 go_enter Tryz.func7, Tryz.ntmps7
 go_wp2
 refine bodyPost_ret (v := .slice none 0 0) (by simp [results, Tryz.results7, go_sem]) rfl ?_
 exact ⟨rfl, Below.refl _ _⟩
set_option maxRecDepth 100000 in
theorem versions_nil (x : Id) (w : World) : Calls Tryz.prog 11 #[.pointer none, .agg #[.string x.group, .string x.artifact]] w fun e w' => e = .returned (.slice none 0 0) ∧ Below w.heap.size w w' := by
 go_enter Tryz.func11, Tryz.ntmps11
 go_upto_region 1 with fail
 refine wp_world ?_
 intro W hW
 have hb : Below w.heap.size w W := by rw [hW]; exact (Below.refl _ _).alloc (Nat.le_refl _) _
 clear hW
 have HB := Lib.hid hb
 clear hb
 go_wp2
 go_ret
 exact ⟨rfl, HB.out⟩
set_option maxRecDepth 100000 in
theorem same_nils (w : World) : Calls Tryz.prog 21 #[.pointer none, .pointer none] w fun e w' => e = .returned (.bool true) ∧ Below w.heap.size w w' := by
 go_enter Tryz.func21, Tryz.ntmps21
 go_wp2
 go_ret
 exact ⟨rfl, Below.refl _ _⟩
set_option maxRecDepth 100000 in
theorem same_nil1 (b : Nat) (w : World) : Calls Tryz.prog 21 #[.pointer none, .pointer (some ⟨b, 0, none⟩)] w fun e w' => e = .returned (.bool false) ∧ Below w.heap.size w w' := by
 have he : (binOp .eql 27 (.pointer none) (.pointer (some ⟨b, 0, none⟩))).run Tryz.prog w = .ok (.bool false) w := by
  first | rfl | kernel_rfl | (simp [go_sem, binOp, Op.equal]) | (simp [binOp, Op.equal, Op.cmp])
 go_enter Tryz.func21, Tryz.ntmps21
 go_wp2
 go_ret
 exact ⟨rfl, Below.refl _ _⟩
set_option maxRecDepth 100000 in
theorem same_nil2 (b : Nat) (w : World) : Calls Tryz.prog 21 #[.pointer (some ⟨b, 0, none⟩), .pointer none] w fun e w' => e = .returned (.bool false) ∧ Below w.heap.size w w' := by
 go_enter Tryz.func21, Tryz.ntmps21
 go_wp2
 go_ret
 exact ⟨rfl, Below.refl _ _⟩
set_option maxRecDepth 100000 in
theorem text_nil (g : Gav) (w : World) : Calls Tryz.prog 13 #[.pointer none, .agg #[.string g.group, .string g.artifact, .string g.version]] w fun e w' => e = .returned (.tuple #[.string ⟨#[]⟩, .bool false]) ∧ Below w.heap.size w w' := by
 go_enter Tryz.func13, Tryz.ntmps13
 go_upto_region 1 with fail
 refine wp_world ?_
 intro W hW
 have x1 : Box W w.heap.size [.string g.group, .string g.artifact, .string g.version] := by rw [hW]; exact Box.new w (gavC g) _ _ rfl
 have hb : Below w.heap.size w W := by rw [hW]; exact (Below.refl _ _).alloc (Nat.le_refl _) _
 clear hW
 have HB := Lib.hid hb
 obtain ⟨k0, k1, k2⟩ := bxc3 x1
 have kl := x1.lt
 clear hb x1
 go_wp2_with fail
 refine (has_nil g _).mono ?_
 rintro e w1 ⟨rfl, hb1⟩
 have HB1 := Lib.hid (HB.out.trans (hb1.mono HB.out.size))
 clear hb1 HB k0 k1 k2 kl
 go_wp2
 go_ret2
 exact ⟨rfl, HB1.out⟩
set_option maxRecDepth 100000 in
set_option maxHeartbeats 8000000 in
theorem pom_nil (g : Gav) (w : World) : Calls Tryz.prog 15 #[.pointer none, .agg #[.string g.group, .string g.artifact, .string g.version]] w fun e w' => e = .returned (.tuple #[.agg #[.bool false, .string ⟨#[]⟩, .string ⟨#[]⟩, .string ⟨#[]⟩, .string ⟨#[]⟩, .string ⟨#[]⟩, .string ⟨#[]⟩, .string ⟨#[]⟩, .slice none 0 0, .slice none 0 0, .slice none 0 0], .agg #[.int .i64 25, .string g.group, .string g.artifact, .string g.version, .int .i64 0, .int .i64 0, .int .i64 0, .string ⟨#[]⟩]]) ∧ Below w.heap.size w w' := by
 go_enter Tryz.func15, Tryz.ntmps15
 go_upto_region 1 with fail
 refine wp_world ?_
 intro W hW
 have x0 : Box W w.heap.size [.pointer none] := by rw [hW]; exact (((Box.new w [.pointer none] _ _ rfl).alloc _).alloc _).alloc _
 have x1 : Box W (w.heap.size + 1) [.string g.group, .string g.artifact, .string g.version] := by rw [hW]; exact ((Box.new _ [.string g.group, .string g.artifact, .string g.version] _ _ (by simp)).alloc _).alloc _
 have x2 : Box W (w.heap.size + 2) [.bool false, .string ⟨#[]⟩, .string ⟨#[]⟩, .string ⟨#[]⟩, .string ⟨#[]⟩, .string ⟨#[]⟩, .string ⟨#[]⟩, .string ⟨#[]⟩, .slice none 0 0, .slice none 0 0, .slice none 0 0] := by rw [hW]; exact (Box.new _ [.bool false, .string ⟨#[]⟩, .string ⟨#[]⟩, .string ⟨#[]⟩, .string ⟨#[]⟩, .string ⟨#[]⟩, .string ⟨#[]⟩, .string ⟨#[]⟩, .slice none 0 0, .slice none 0 0, .slice none 0 0] _ _ (by simp)).alloc _
 have x3 : Box W (w.heap.size + 3) [.int .i64 0, .string ⟨#[]⟩, .string ⟨#[]⟩, .string ⟨#[]⟩, .int .i64 0, .int .i64 0, .int .i64 0, .string ⟨#[]⟩] := by rw [hW]; exact Box.new _ [.int .i64 0, .string ⟨#[]⟩, .string ⟨#[]⟩, .string ⟨#[]⟩, .int .i64 0, .int .i64 0, .int .i64 0, .string ⟨#[]⟩] _ _ (by simp)
 have hb : Below w.heap.size w W := by rw [hW]; exact ((((Below.refl _ w).alloc (Nat.le_refl _) _).alloc (by simp) _).alloc (by simp; omega) _).alloc (by simp; omega) _
 clear hW
 have HX1 := Lib.hid x1
 have HX2 := Lib.hid x2
 have HX3 := Lib.hid x3
 have HB := Lib.hid hb
 have v0 := x0.cell 0 _ rfl
 have vl := x0.lt
 obtain ⟨g0, g1, g2⟩ := bxc3 x1
 have gl := x1.lt
 clear x0 x1 x2 x3 hb
 go_wp2_with fail
 refine (has_nil g _).mono ?_
 rintro e W2 ⟨rfl, hb2⟩
 have HY1 := Lib.hid (HX1.out.below hb2 HX1.out.lt)
 have HY2 := Lib.hid (HX2.out.below hb2 HX2.out.lt)
 have HY3 := Lib.hid (HX3.out.below hb2 HX3.out.lt)
 have HB2 := Lib.hid (HB.out.trans (hb2.mono HB.out.size))
 clear v0 vl g0 g1 g2 gl hb2 HX1 HX2 HX3 HB
 obtain ⟨H, hH⟩ : ∃ H, H = w.heap.size := ⟨_, rfl⟩
 have HHE : Hid (H = w.heap.size) := hH
 rw [← hH] at HY1 HY2 HY3
 rw [← hH]
 clear hH
 go_upto_region 4 with fail
 refine wp_region_flags0 (pnJ H g W2 _ _ _ _ _ _ _ _ _ _ _ _ _ _ _ _ _ _ _ _ _ _ _ _ _ _ _ _ _ _ _ _ _ _ _ _ _) (by kernel_rfl) 5 rfl (by kernel_rfl) (pnJ.at false false false false false  rfl (by unfold pnUpd; rfl) ?i0 ?i1 ?i2 ?i3 ?i4 ?i5 ?i6 ?i7 ?i8 ?i9) ?fin ?step
 case i0 => exact Lib.hid (by simp)
 case i1 => exact Lib.hid (by simp)
 case i2 => exact Lib.hid (by simp)
 case i3 => exact fun h0 => belowN (Below.refl _ _) 1
 case i4 => exact HY1.out.drewN 1
 case i5 => exact fun _ => HY2.out.drewN 1
 case i6 => exact by simp
 case i7 => exact fun _ => HY3.out.drewN 1
 case i8 => exact by simp
 case i9 => exact ⟨rfl, rfl, rfl, Nat.le_refl _, fun _ _ _ => rfl⟩
 case fin =>
  intro a' w' hJ
  generalize hl : Array.replicate 5 true = Lz at hJ
  cases hJ with
  | mk f0 f1 f2 f3 f4 _ ch2 ch3 ch4 hB rg rp rq rr rs bw =>
   have hl' : [true, true, true, true, true] = [f0, f1, f2, f3, f4] := congrArg Array.toList hl
   simp only [List.cons.injEq, and_true] at hl'
   obtain ⟨rfl, rfl, rfl, rfl, rfl⟩ := hl'
   clear hl
   unfold pnUpd
   simp only [cond_true]
   have HF1 := Lib.hid (rq rfl)
   have HF2 := Lib.hid (rs rfl)
   have HBW := Lib.hid bw
   clear ch2 ch3 ch4 hB rg rp rq rr rs bw
   obtain ⟨y0, y1, y2, y3, y4, y5, y6, y7, y8, y9, y10⟩ := bxc11 HF1.out
   obtain ⟨z0, z1, z2, z3, z4, z5, z6, z7⟩ := bxc8 HF2.out
   have yl := HF1.out.lt
   have zl := HF2.out.lt
   go_wp2
   refine bodyPost_ret (v := .tuple #[.agg #[.bool false, .string ⟨#[]⟩, .string ⟨#[]⟩, .string ⟨#[]⟩, .string ⟨#[]⟩, .string ⟨#[]⟩, .string ⟨#[]⟩, .string ⟨#[]⟩, .slice none 0 0, .slice none 0 0, .slice none 0 0], .agg #[.int .i64 25, .string g.group, .string g.artifact, .string g.version, .int .i64 0, .int .i64 0, .int .i64 0, .string ⟨#[]⟩]]) (by simp [results, Tryz.results15, go_sem, y0, y1, y2, y3, y4, y5, y6, y7, y8, y9, y10, z0, z1, z2, z3, z4, z5, z6, z7]) rfl ?_
   exact ⟨rfl, HB2.out.trans (HBW.out.below (B := w.heap.size) HB2.out.size (by rintro k (rfl | rfl) <;> (have := HHE.out; omega)))⟩
 case step =>
  intro listed a' w' hJ i hi
  cases hJ with
  | mk f0 f1 f2 f3 f4 _ ch2 ch3 ch4 hB rg rp rq rr rs bw =>
   rw [mem_ready] at hi
   obtain ⟨hu, o, ho, ha⟩ := hi
   have hi8 : i < 5 := (Array.getElem?_eq_some_iff.1 ho).1
   rcases (by omega : i = 0 ∨ i = 1 ∨ i = 2 ∨ i = 3 ∨ i = 4) with rfl | rfl | rfl | rfl | rfl
   · have ho' := ho
     simp at hu ho
     subst hu ho
     clear ha
     have e3 : f3 = false := Bool.eq_false_iff.2 fun h => Bool.false_ne_true ((ch3.out h))
     have e4 : f4 = false := Bool.eq_false_iff.2 fun h => Bool.false_ne_true ((ch3.out (ch4.out h).2.1))
     subst e3 e4
     refine .inl ?_
     unfold pnUpd Oper.wp
     go_simp
     exact pnJ.at true f1 f2 false false rfl rfl (ch2) (Lib.hid (by simp)) (Lib.hid (by simp)) (hB) (rg) (rp) (by simp) (rr) (by simp) (bw)
   · have ho' := ho
     simp at hu ho
     subst hu ho
     clear ha
     have e2 : f2 = false := Bool.eq_false_iff.2 fun h => Bool.false_ne_true ((ch2.out h))
     have e4 : f4 = false := Bool.eq_false_iff.2 fun h => Bool.false_ne_true ((ch2.out (ch4.out h).1))
     subst e2 e4
     obtain ⟨k0, k1, k2⟩ := bxc3 rg
     have kl := rg.lt
     refine .inl ?_
     unfold pnUpd Oper.wp
     go_simp
     exact pnJ.at f0 true false f3 false rfl rfl (Lib.hid (by simp)) (ch3) (Lib.hid (by simp)) (hB) (rg) (rp) (rq) (rr) (by simp) (bw)
   · have ho' := ho
     simp at hu ho
     subst hu ho
     simp [Region.binds] at ha
     obtain rfl : f1 = true := by simp only [ha]
     clear ha
     have e4 : f4 = false := Bool.eq_false_iff.2 fun h => Bool.false_ne_true ((ch4.out h).1)
     subst e4
     refine .inl ?_
     unfold pnUpd Oper.wp
     go_simp
     exact pnJ.at f0 true true f3 false rfl rfl (Lib.hid (by simp)) (ch3) (Lib.hid (by simp)) (hB) (rg) (rp) (rq) (rr) (by simp) (bw)
   · have ho' := ho
     simp at hu ho
     subst hu ho
     simp [Region.binds] at ha
     obtain rfl : f0 = true := by simp only [ha]
     clear ha
     have e4 : f4 = false := Bool.eq_false_iff.2 fun h => Bool.false_ne_true ((ch4.out h).2.1)
     subst e4
     refine .inl ?_
     unfold pnUpd
     refine wp_store_box 48 (.tmp 4) (.tmp 17) rfl (H + 2) [.bool false, .string ⟨#[]⟩, .string ⟨#[]⟩, .string ⟨#[]⟩, .string ⟨#[]⟩, .string ⟨#[]⟩, .string ⟨#[]⟩, .string ⟨#[]⟩, .slice none 0 0, .slice none 0 0, .slice none 0 0] [.bool false, .string ⟨#[]⟩, .string ⟨#[]⟩, .string ⟨#[]⟩, .string ⟨#[]⟩, .string ⟨#[]⟩, .string ⟨#[]⟩, .string ⟨#[]⟩, .slice none 0 0, .slice none 0 0, .slice none 0 0] (by simp [Act.eval]) (by simp [Act.eval]) (rp rfl) rfl size_pomS (by simp [Value.oneCell']) ?_
     intro wz hz1 hg1
     exact pnJ.at true f1 f2 true false rfl rfl (ch2) (Lib.hid (by simp)) (Lib.hid (by simp)) (by simp) (rg.grown hg1 (by simp)) (by simp) (fun _ => hz1) (fun h => (rr h).grown hg1 (by simp)) (by simp) (bw.trans (Only.grown hg1 (by rintro k ⟨⟩; exact .inl rfl)) (fun _ _ => id))
   · have ho' := ho
     simp at hu ho
     subst hu ho
     simp [Region.binds] at ha
     obtain rfl : f2 = true := by simp only [ha]
     obtain rfl : f3 = true := by simp only [ha]
     obtain rfl : f0 = true := by simp only [ha]
     obtain rfl : f1 = true := by simp only [ha]
     clear ha
     refine .inl ?_
     unfold pnUpd
     refine wp_store_box 53 (.tmp 5) (.tmp 19) rfl (H + 3) [.int .i64 0, .string ⟨#[]⟩, .string ⟨#[]⟩, .string ⟨#[]⟩, .int .i64 0, .int .i64 0, .int .i64 0, .string ⟨#[]⟩] [.int .i64 25, .string g.group, .string g.artifact, .string g.version, .int .i64 0, .int .i64 0, .int .i64 0, .string ⟨#[]⟩] (by simp [Act.eval]) (by simp [Act.eval]) (rr rfl) rfl size_prbS (by simp [Value.oneCell']) ?_
     intro wz hz1 hg1
     exact pnJ.at true true true true true rfl rfl (Lib.hid (by simp)) (Lib.hid (by simp)) (Lib.hid (by simp)) (by simp) (rg.grown hg1 (by simp)) (by simp) (fun h => (rq h).grown hg1 (by simp)) (by simp) (fun _ => hz1) (bw.trans (Only.grown hg1 (by rintro k ⟨⟩; exact .inr rfl)) (fun _ _ => id))
theorem eql_prbG (a b c : S) (w : World) : (binOp .eql 53 (.agg #[.int .i64 25, .string a, .string b, .string c, .int .i64 0, .int .i64 0, .int .i64 0, .string ⟨#[]⟩]) (.agg #[.int .i64 25, .string a, .string b, .string c, .int .i64 0, .int .i64 0, .int .i64 0, .string ⟨#[]⟩])).run Tryz.prog w = .ok (.bool true) w := by
 have h := eqs_prbS
 simp [go_sem, h]
attribute [local go_sem ↓] eqg_prbS eql_prbG in
set_option maxRecDepth 100000 in
set_option maxHeartbeats 16000000 in
theorem storeNobody_any (g : Gav) (s : S) (m : Int) (w : World) (hm : w.cell? ⟨0, 0, none⟩ = some (.int .i64 m)) : Calls Tryz.prog 4 #[.agg #[.string g.group, .string g.artifact, .string g.version], .string s] w fun e w' => e = .returned (.bool true) ∧ Below w.heap.size w w' := by
 have HM := Lib.hid hm
 have HW0 : Hid (0 < w.heap.size) := World.block_lt_of_cell? w _ hm
 clear hm
 go_enter Tryz.func4, Tryz.ntmps4
 go_upto_region 1 with fail
 refine wp_world ?_
 intro W hW
 have x1 : Box W w.heap.size [.string g.group, .string g.artifact, .string g.version] := by rw [hW]; exact Box.new w (gavC g) _ _ rfl
 have hb : Below w.heap.size w W := by rw [hW]; exact (Below.refl _ _).alloc (Nat.le_refl _) _
 clear hW
 have HX := Lib.hid x1
 have HB := Lib.hid hb
 obtain ⟨k0, k1, k2⟩ := bxc3 x1
 have kl := x1.lt
 clear hb x1
 go_wp2_with fail
 refine (pom_nil g _).mono ?_
 rintro e w1 ⟨rfl, hb1⟩
 have HX1 := Lib.hid (HX.out.below hb1 HX.out.lt)
 have HB1 := Lib.hid (HB.out.trans (hb1.mono HB.out.size))
 clear hb1 HX HB k0 k1 k2 kl
 go_upto_region 3 with fail
 refine wp_world ?_
 intro W2 hW2
 have y2 : Box W2 (w1.heap.size + 1) [.int .i64 25, .string g.group, .string g.artifact, .string g.version, .int .i64 0, .int .i64 0, .int .i64 0, .string ⟨#[]⟩] := by rw [hW2]; exact Box.new _ [.int .i64 25, .string g.group, .string g.artifact, .string g.version, .int .i64 0, .int .i64 0, .int .i64 0, .string ⟨#[]⟩] _ _ (by simp)
 have hb2 : Below w1.heap.size w1 W2 := by rw [hW2]; exact ((Below.refl _ w1).alloc (Nat.le_refl _) _).alloc (by simp) _
 clear hW2
 have HX2 := Lib.hid (HX1.out.below hb2 HX1.out.lt)
 have HB2 := Lib.hid (HB1.out.trans (hb2.mono HB1.out.size))
 have HY2 := Lib.hid y2
 clear hb2 y2 HX1 HB1
 obtain ⟨k0, k1, k2⟩ := bxc3 HX2.out
 have kl := HX2.out.lt
 go_wp2_with fail
 refine (text_nil g _).mono ?_
 rintro e w3 ⟨rfl, hb3⟩
 have HX3 := Lib.hid (HX2.out.below hb3 HX2.out.lt)
 have HY3 := Lib.hid (HY2.out.below hb3 HY2.out.lt)
 have HB3 := Lib.hid (HB2.out.trans (hb3.mono HB2.out.size))
 clear hb3 HX2 HB2 HY2
 clear k0 k1 k2 kl
 go_wp2_with fail
 refine (new_any _).mono ?_
 rintro e w4 ⟨b, F, rfl, -, -, hb4⟩
 unfold ptr
 have HX4 := Lib.hid (HX3.out.below hb4 HX3.out.lt)
 have HY4 := Lib.hid (HY3.out.below hb4 HY3.out.lt)
 have HB4 := Lib.hid (HB3.out.trans (hb4.mono HB3.out.size))
 clear hb4 HX3 HB3 HY3
 obtain ⟨k0, k1, k2⟩ := bxc3 HX4.out
 have kl := HX4.out.lt
 go_wp2_with fail
 refine (put_nil g s _).mono ?_
 rintro e w5 ⟨rfl, hb5⟩
 have HX5 := Lib.hid (HX4.out.below hb5 HX4.out.lt)
 have HY5 := Lib.hid (HY4.out.below hb5 HY4.out.lt)
 have HB5 := Lib.hid (HB4.out.trans (hb5.mono HB4.out.size))
 clear hb5 HX4 HB4 HY4
 clear k0 k1 k2 kl
 obtain ⟨k0, k1, k2⟩ := bxc3 HX5.out
 have kl := HX5.out.lt
 go_wp2_with fail
 refine (has_nil g _).mono ?_
 rintro e w6 ⟨rfl, hb6⟩
 have HX6 := Lib.hid (HX5.out.below hb6 HX5.out.lt)
 have HY6 := Lib.hid (HY5.out.below hb6 HY5.out.lt)
 have HB6 := Lib.hid (HB5.out.trans (hb6.mono HB5.out.size))
 clear hb6 HX5 HB5 HY5
 clear k0 k1 k2 kl
 obtain ⟨k0, k1, k2⟩ := bxc3 HX6.out
 have kl := HX6.out.lt
 obtain ⟨q0, q1, q2, q3, q4, q5, q6, q7⟩ := bxc8 HY6.out
 have ql := HY6.out.lt
 go_wp2_with fail
 refine (len_nil _).mono ?_
 rintro e w7 ⟨rfl, hb7⟩
 have HX7 := Lib.hid (HX6.out.below hb7 HX6.out.lt)
 have HY7 := Lib.hid (HY6.out.below hb7 HY6.out.lt)
 have HB7 := Lib.hid (HB6.out.trans (hb7.mono HB6.out.size))
 clear hb7 HX6 HB6 HY6
 clear k0 k1 k2 kl q0 q1 q2 q3 q4 q5 q6 q7 ql
 go_wp2_with fail
 refine (reads_nil _).mono ?_
 rintro e w8 ⟨rfl, hb8⟩
 have HX8 := Lib.hid (HX7.out.below hb8 HX7.out.lt)
 have HY8 := Lib.hid (HY7.out.below hb8 HY7.out.lt)
 have HB8 := Lib.hid (HB7.out.trans (hb8.mono HB7.out.size))
 clear hb8 HX7 HB7 HY7
 go_wp2_with fail
 refine (asks_nil _).mono ?_
 rintro e w9 ⟨rfl, hb9⟩
 have HX9 := Lib.hid (HX8.out.below hb9 HX8.out.lt)
 have HY9 := Lib.hid (HY8.out.below hb9 HY8.out.lt)
 have HB9 := Lib.hid (HB8.out.trans (hb9.mono HB8.out.size))
 clear hb9 HX8 HB8 HY8
 go_wp2_with fail
 refine (all_nil _).mono ?_
 rintro e w10 ⟨rfl, hb10⟩
 have HX10 := Lib.hid (HX9.out.below hb10 HX9.out.lt)
 have HY10 := Lib.hid (HY9.out.below hb10 HY9.out.lt)
 have HB10 := Lib.hid (HB9.out.trans (hb10.mono HB9.out.size))
 clear hb10 HX9 HB9 HY9
 go_wp2_with fail
 refine (versions_nil ⟨⟨#[]⟩, ⟨#[]⟩⟩ _).mono ?_
 rintro e w11 ⟨rfl, hb11⟩
 have HX11 := Lib.hid (HX10.out.below hb11 HX10.out.lt)
 have HY11 := Lib.hid (HY10.out.below hb11 HY10.out.lt)
 have HB11 := Lib.hid (HB10.out.trans (hb11.mono HB10.out.size))
 clear hb11 HX10 HB10 HY10
 go_wp2_with fail
 refine (same_nils _).mono ?_
 rintro e w12 ⟨rfl, hb12⟩
 have HX12 := Lib.hid (HX11.out.below hb12 HX11.out.lt)
 have HY12 := Lib.hid (HY11.out.below hb12 HY11.out.lt)
 have HB12 := Lib.hid (HB11.out.trans (hb12.mono HB11.out.size))
 clear hb12 HX11 HB11 HY11
 go_wp2_with fail
 refine (same_nil1 b _).mono ?_
 rintro e w13 ⟨rfl, hb13⟩
 have HX13 := Lib.hid (HX12.out.below hb13 HX12.out.lt)
 have HY13 := Lib.hid (HY12.out.below hb13 HY12.out.lt)
 have HB13 := Lib.hid (HB12.out.trans (hb13.mono HB12.out.size))
 clear hb13 HX12 HB12 HY12
 go_wp2_with fail
 refine (same_nil2 b _).mono ?_
 rintro e w14 ⟨rfl, hb14⟩
 have HX14 := Lib.hid (HX13.out.below hb14 HX13.out.lt)
 have HY14 := Lib.hid (HY13.out.below hb14 HY13.out.lt)
 have HB14 := Lib.hid (HB13.out.trans (hb14.mono HB13.out.size))
 clear hb14 HX13 HB13 HY13
 go_wp2_with fail
 refine (storeLives_any m _ ((HB14.out.cell (by exact HW0.out)).trans HM.out)).mono ?_
 rintro e wz ⟨rfl, hbz⟩
 go_wp2
 go_ret
 exact ⟨rfl, HB14.out.trans (hbz.mono HB14.out.size)⟩

end Go.Proofs.YtphaeegbmfpcgaaGreatDoor

/- From a walk to a row whose library variables are laid: a law that returns true and turns nothing that was there. -/
namespace Go.Proofs.YtphaeegbmfpcgaaGreatDoor
open Go Go.ChangeShapes Go.WideShapes Go.ChangeAt Go.RowKit

theorem own : ownKnob Tryz.prog.godebug = none := by kernel_rfl
theorem laidOut : laidOutB Tryz.prog = true := by kernel_rfl
theorem trodAll_below {H : Type} {enc : TypeId × Value → H} {W W' : World} (hb : Below W.heap.size W W') : ∀ {ts : List TypeId} {vs : List Value} {ds : List (DataW H)} {ps : List MemPlace},
    (∀ t ∈ ts, Tryz.prog.readableRec t = true ∧ t < Tryz.prog.types.size) → DataW.TrodAll enc Tryz.prog W 0 (fun _ => true) true ts vs ds ps → (∀ x ∈ ps, x.block < W.heap.size) →
    DataW.TrodAll enc Tryz.prog W' 0 (fun b => decide (b < W.heap.size)) true ts vs ds ps
 | [], [], [], _, _, h, _ => h
 | t :: ts, v :: vs, d :: ds, ps, hr, h, hlt => by
  obtain ⟨p, q, h1, h2, rfl⟩ := h
  exact ⟨p, q, Below.trod laidOut (hr t (by simp)).1 (hr t (by simp)).2 h1 hb (fun x hx => hlt x (by simp [hx])),
   trodAll_below hb (fun u hu => hr u (by simp [hu])) h2 (fun x hx => hlt x (by simp [hx])), rfl⟩
 | [], [], _ :: _, _, _, h, _ => h.elim
 | [], _ :: _, _, _, _, h, _ => h.elim
 | _ :: _, [], _, _, _, h, _ => h.elim
 | _ :: _, _ :: _, [], _, _, h, _ => h.elim
/-- What the listed variables hold. -/
def laidL : List (String × DataW Unit) := [("unicode/utf8.acceptRanges", Rows.laid_unicode_utf8_acceptRanges), ("unicode/utf8.first", Rows.laid_unicode_utf8_first)]
/-- The wrap of a tied row, the world's shape kept. -/
theorem handed_tied {H : Type} {enc : TypeId × Value → H} {a : Assume} {C : Checked} {os : Os} {f : FuncId} {fn : Func} {s : ChangeSpec} {conds : List PathCond} {apart fresh handsOn again : Bool} {X : World → Array Value → Prop}
    (own : ownKnob C.prog.godebug = none) (started : os.Started) (noInit : C.prog.inits.idxOf? f = none) (hfn : C.prog.funcs[f]? = some fn)
    (witness : ∃ (w : World) (tape : Tape) (i : Input), w.os = os ∧ (w.forCall tape i).Shaped C.prog ∧ i.vars = [] ∧ Input.okWide C.prog (w.forCall tape i) .any w.heap.size f i ∧
     ((s.pre enc C.prog fn conds apart (w.forCall tape i).memory i.args ∧ X (w.forCall tape i).memory i.args) ∧ sizedMet enc C.prog fn (OpenSpec.ofChange s) apart (w.forCall tape i).memory i.args) ∧ a.holds C.prog (lone (Frame.enter C.prog f i.args .normal) [] (w.forCall tape i)))
    (contract : ∀ (W : World) (base : Nat) (args : Array Value) (ds gs : List (DataW H)) (before : List MemPlace),
     (∀ (j : Nat) t v, fn.params[j]? = some t → args[j]? = some v → Value.okWide C.prog W .any base t v) →
     DataW.Whole enc C.prog fn.params.toList s.vars apart W args.toList ds gs before →
     conds.all (PathCond.test C.prog ⟨fn.params.toList, ds, s.plain.varTypes C.prog, gs⟩) = true →
     W.ShapedOpen C.prog →
     Calls C.prog f args W fun e W' => ∃ v, e = .returned v ∧ s.post enc C.prog fn apart fresh handsOn again W args v W') :
    ReturnsInHanded a C os f .any (fun w args => (s.pre enc C.prog fn conds apart w args ∧ X w args) ∧ sizedMet enc C.prog fn (OpenSpec.ofChange s) apart w args) (s.post enc C.prog fn apart fresh handsOn again) := by
 refine returnsInHanded_of_calls own started noInit witness ?_
 intro w tape i _ hsh _ hok hpre hholds
 obtain ⟨_, _, _, fn', hfn', _, _, _, _, hval⟩ := hok
 have e : fn' = fn := Option.some.inj (hfn'.symm.trans hfn)
 subst e
 obtain ⟨⟨⟨ds, gs, before, hw, hc⟩, -⟩, -⟩ := hpre
 have hw' := DataW.Whole.of_heap (w' := w.forCall tape i) (by rfl) hw
 refine (contract (w.forCall tape i) w.heap.size i.args ds gs before hval hw' hc hsh).mono fun e W' ⟨v, he, hp⟩ => ?_
 subst he
 exact ChangeSpec.post_blind hp

end Go.Proofs.YtphaeegbmfpcgaaGreatDoor

/- From the readings of the arguments to what the walks ask: a project that can be read is one in memory. -/
namespace Go.Proofs.YtphaeegbmfpcgaaGreatDoor
open Go Go.RowKit

variable {H : Type} {enc : TypeId × Value → H} {W : World} {sp : Nat → Bool} {held : Bool}
/-- Whatever reads as type t are the cells of some a that is all right. -/
def Opens {α : Type} (enc : TypeId × Value → H) (W : World) (sp : Nat → Bool) (held : Bool) (t : TypeId) (C : α → List Value) (Ok : α → Prop) : Prop :=
 ∀ fuel cs x, DataW.trod enc Tryz.prog W 0 sp held fuel t cs = some x → ∃ a, cs = C a ∧ Ok a
theorem opens_string : Opens enc W sp held 9 strC (fun s => s.size ≤ maxLen) := fun _ _ _ h => by
 obtain ⟨s, h1, -, h2⟩ := DataW.trod_string Tryz.underlying9 h
 exact ⟨s, h1, h2⟩
theorem cellsOf_str : Tryz.prog.cellsOf 9 = 1 := by kernel_rfl
theorem cellsOf_gav : Tryz.prog.cellsOf 26 = 3 := by kernel_rfl
theorem len3 {l : List Value} (h : l.length = 3) : ∃ c0 c1 c2, l = [c0, c1, c2] := by
 match l, h with
 | [c0, c1, c2], _ => exact ⟨c0, c1, c2, rfl⟩
theorem opens_gav : Opens enc W sp held 26 gavC (fun _ => True) := fun fuel cs x h => by
 obtain ⟨xs, n, -, -, hl, hxs, hf⟩ := DataW.trod_struct Tryz.underlying26 h
 rw [cellsOf_gav] at hl
 obtain ⟨c0, c1, c2, rfl⟩ := len3 hl
 have f0 : DataW.trod enc Tryz.prog W 0 sp held n 9 (([c0, c1, c2].drop 0).take (Tryz.prog.cellsOf 9)) = xs[0]? := hf 0 _ rfl
 rw [cellsOf_str, List.getElem?_eq_getElem (by rw [hxs]; decide)] at f0
 have f1 : DataW.trod enc Tryz.prog W 0 sp held n 9 (([c0, c1, c2].drop 1).take (Tryz.prog.cellsOf 9)) = xs[1]? := hf 1 _ rfl
 rw [cellsOf_str, List.getElem?_eq_getElem (by rw [hxs]; decide)] at f1
 have f2 : DataW.trod enc Tryz.prog W 0 sp held n 9 (([c0, c1, c2].drop 2).take (Tryz.prog.cellsOf 9)) = xs[2]? := hf 2 _ rfl
 rw [cellsOf_str, List.getElem?_eq_getElem (by rw [hxs]; decide)] at f2
 obtain ⟨a0, h0, k0⟩ := opens_string _ _ _ f0
 obtain ⟨a1, h1, k1⟩ := opens_string _ _ _ f1
 obtain ⟨a2, h2, k2⟩ := opens_string _ _ _ f2
 clear hf f0 f1 f2
 cases h0
 cases h1
 cases h2
 exact ⟨⟨a0, a1, a2⟩, rfl, trivial⟩

end Go.Proofs.YtphaeegbmfpcgaaGreatDoor

/- The closed facts of the row StoreNobody, one by one; no conditions. -/

namespace Go.Proofs.YtphaeegbmfpcgaaGreatDoor
open Go Go.ChangeShapes Go.WideShapes Go.ChangeAt Go.RowKit Go.ChangeMaps

theorem andT {a b : Bool} (ha : a = true) (hb : b = true) : (a && b) = true := by rw [ha, hb]; rfl
theorem snJ0 : (Rows.storeNobodyRow.wf (OpenSpec.ofChange Rows.storeNobodySpec)) = true := by kernel_rfl
theorem snJ1 : (laidOutB Tryz.prog) = true := by kernel_rfl
theorem snJ2 : (mapsRowed Tryz.prog) = true := by kernel_rfl
theorem snJ3 : (Tryz.f4.params.all (Tryz.prog.readableRec ·)) = true := by kernel_rfl
theorem snJ4 : (namedTie Tryz.prog Rows.storeNobodyRow.named Rows.storeNobodySpec.vars) = true := by kernel_rfl
theorem snJ5 : ((Rows.storeNobodyRow.stops == [])) = true := by kernel_rfl
theorem snJ6 : ((Tryz.prog.stops == [])) = true := by kernel_rfl
theorem snJ7 : ((Rows.storeNobodyRow.knobs == [])) = true := by kernel_rfl
theorem snJ8 : ((Tryz.prog.stopKnobs == [])) = true := by kernel_rfl
theorem snJ9 : ((Rows.storeNobodyRow.inPlace == Tryz.prog.inPlace 4)) = true := by kernel_rfl
theorem snJ10 : ((Rows.storeNobodyRow.unfollowed == Tryz.prog.unfollowed 4)) = true := by kernel_rfl
theorem snJ11 : ((Rows.storeNobodyRow.recurses == Tryz.prog.recurses 4)) = true := by kernel_rfl
theorem snJ12 : ((Rows.storeNobodyRow.named == Tryz.prog.varsNamed 4)) = true := by kernel_rfl
theorem snJ13 : ((Rows.storeNobodyRow.maps == (Tryz.f4.params.toList ++ Rows.storeNobodySpec.plain.varTypes Tryz.prog).any (Tryz.prog.mapsRec ·))) = true := by kernel_rfl
theorem snJ14 : ((Rows.storeNobodyRow.ifaces == (Tryz.f4.params.toList ++ Rows.storeNobodySpec.plain.varTypes Tryz.prog).any (Tryz.prog.ifacesRec ·))) = true := by kernel_rfl
theorem snJ15 : ((Rows.storeNobodyRow.mapsOut == Tryz.prog.mapsAmong Tryz.f4.resultTypes.toList)) = true := by kernel_rfl
theorem snJ16 : ((Rows.storeNobodyRow.loops == (Tryz.f4.params.toList ++ Rows.storeNobodySpec.plain.varTypes Tryz.prog).any (Tryz.prog.loopsFrom ·))) = true := by kernel_rfl
theorem snJ17 : ((Rows.storeNobodyRow.wideKeys == (Tryz.f4.params.toList ++ Rows.storeNobodySpec.plain.varTypes Tryz.prog ++ Tryz.f4.resultTypes.toList).any (Tryz.prog.wideKeysFrom ·))) = true := by kernel_rfl
theorem snJ18 : (Rows.storeNobodySpec.vars.all (Tryz.prog.varReadable ·)) = true := by kernel_rfl
theorem snJ19 : (Tryz.f4.resultTypes.all (fun t => Tryz.prog.readableRec t && decide (t < Tryz.prog.types.size))) = true := by kernel_rfl
theorem snJ20 : ((Rows.storeNobodyRow.ifacesOut == Tryz.f4.resultTypes.toList.any (Tryz.prog.ifacesRec ·))) = true := by kernel_rfl
theorem snJ21 : ((Rows.storeNobodyRow.loopsOut == Tryz.f4.resultTypes.toList.any (Tryz.prog.loopsFrom ·))) = true := by kernel_rfl
theorem snJ22 : ((Rows.storeNobodyRow.plainKeys == Tryz.prog.plainKeys)) = true := by kernel_rfl
theorem snJ23 : (Rows.storeNobodyRow.shortTexts.isNone) = true := by kernel_rfl
theorem snJ24 : (Tryz.prog.stopsHeard) = true := by kernel_rfl
theorem snJ25 : (Tryz.prog.mayEnter) = true := by kernel_rfl
theorem snJ26 : ((Rows.storeNobodyRow.lifted == Tryz.prog.liftsFinal)) = true := by kernel_rfl
theorem snJ27 : ((Tryz.prog.make == some Rows.storeNobodyRow.make)) = true := by kernel_rfl
theorem snJ28 : ((Rows.storeNobodyRow.kinds == (if Rows.storeNobodyRow.domain.isEmpty then [] else Tryz.f4.params.toList.map fun t => match Tryz.prog.underlying t with | some (.int k) => some k | _ => none))) = true := by kernel_rfl
theorem snJ29 : ((Rows.storeNobodyRow.pinned == Rows.storeNobodyRow.pinnedBy)) = true := by kernel_rfl
theorem snJ30 : ((Rows.storeNobodyRow.veiled == (Tryz.f4.params.toList ++ Rows.storeNobodySpec.plain.varTypes Tryz.prog ++ Tryz.f4.resultTypes.toList).any (Tryz.prog.veiledRec ·))) = true := by kernel_rfl
theorem snJ31 : (Rows.storeNobodyRow.veiledFits Tryz.prog Tryz.f4.params.toList (Tryz.f4.params.toList ++ Rows.storeNobodySpec.plain.varTypes Tryz.prog ++ Tryz.f4.resultTypes.toList)) = true := by kernel_rfl
set_option maxRecDepth 100000 in
theorem storeNobody_facts : joinedFacts Tryz.prog 4 Tryz.f4 Rows.storeNobodySpec Rows.storeNobodyRow = true := andT (andT (andT (andT (andT (andT (andT (andT (andT (andT (andT (andT (andT (andT (andT (andT (andT (andT (andT (andT (andT (andT (andT (andT (andT (andT (andT (andT (andT (andT (andT snJ0 snJ1) snJ2) snJ3) snJ4) snJ5) snJ6) snJ7) snJ8) snJ9) snJ10) snJ11) snJ12) snJ13) snJ14) snJ15) snJ16) snJ17) snJ18) snJ19) snJ20) snJ21) snJ22) snJ23) snJ24) snJ25) snJ26) snJ27) snJ28) snJ29) snJ30) snJ31

end Go.Proofs.YtphaeegbmfpcgaaGreatDoor

/- Whatever the project's name and the text, the law StoreNobody returns true, and its arguments read behind the call as before; the card ties the library variables that the row lists; no conditions. -/
namespace Go.Proofs.YtphaeegbmfpcgaaGreatDoor
open Go Go.ChangeShapes Go.WideShapes Go.ChangeAt Go.RowKit Go.ChangeMaps

theorem rt_str : Tryz.prog.readableRec 9 = true := by kernel_rfl
theorem lt_str : 9 < Tryz.prog.types.size := of_decide_eq_true (by kernel_rfl)
theorem rt_gav : Tryz.prog.readableRec 26 = true := by kernel_rfl
theorem lt_gav : 26 < Tryz.prog.types.size := of_decide_eq_true (by kernel_rfl)
set_option maxRecDepth 100000 in
theorem open_gavS {H : Type} {enc : TypeId × Value → H} {W : World} {base : Nat} {v : Value} {d : DataW H} {p : List MemPlace} (hval : Value.okWide Tryz.prog W .any base 26 v)
    (h : DataW.Trod enc Tryz.prog W 0 (fun _ => true) true 26 v d p) : ∃ q : Gav, v = .agg (gavC q).toArray := by
 obtain ⟨fuel, hf⟩ := h
 obtain ⟨q, hcs, -⟩ := opens_gav _ _ _ hf
 refine ⟨q, ?_⟩
 simp only [Value.okWide, Tryz.underlying26] at hval
 obtain ⟨cs, rfl, -⟩ := hval
 simp only [Value.cells] at hcs
 rw [← hcs]
set_option maxRecDepth 100000 in
theorem storeNobody_lifted (os : Os) (started : os.Started) (H : Type) (enc : TypeId × Value → H) :
    ReturnsInHanded {} Tryz.checked os 4 .any (fun w args => (Rows.storeNobodySpec.pre enc Tryz.prog Tryz.f4 Rows.storeNobodyRow.domain false w args ∧ laidMetH Tryz.prog laidL w) ∧ sizedMet enc Tryz.prog Tryz.f4 (OpenSpec.ofChange Rows.storeNobodySpec) false w args)
     (Rows.storeNobodySpec.post enc Tryz.prog Tryz.f4 false true false false) := by
 refine handed_tied (C := Tryz.checked) (X := fun w _ => laidMetH Tryz.prog laidL w) own started (by kernel_rfl) Tryz.func4
  (ChangeSpec.witness_shaped (enc := enc) (C := Tryz.checked) (os := os) (X := fun w _ => laidMetH Tryz.prog laidL w) false (World.laidAll Tryz.prog os laidL) #[.agg #[.string .empty, .string .empty, .string .empty], .string .empty] 8 (World.laidAll_os _ _ _)
   (World.shaped_of_ZipB (by kernel_rfl) (by kernel_rfl)) (by kernel_rfl) (by kernel_rfl) (by kernel_rfl)
   (by rw [MakeChecks.laidMetH_plain _ _ _ (by kernel_rfl)]; exact laidMet_laidAll _ (by kernel_rfl) (by kernel_rfl))) ?_
 intro W base args ds gs before hval0 hW _ hsh
 have hval : ∀ (j : Nat) t v, Tryz.f4.params[j]? = some t → args[j]? = some v → Value.okWide Tryz.prog W .any base t v := hval0
 have hW' := hW
 obtain ⟨p, q, hA0, hV, rfl, hfz, hnd⟩ := hW
 have hA : DataW.TrodAll enc Tryz.prog W 0 (fun _ => true) true Tryz.f4.params.toList args.toList ds p := hA0
 have hA' := hA
 rw [Tryz.params4] at hA hval
 obtain ⟨v0, v1, d0, d1, p0, p1, rfl, rfl, rfl, h0, h1⟩ := trodAll_two hA
 obtain ⟨rfl, rfl⟩ := trodVars_none hV
 obtain ⟨g, rfl⟩ := open_gavS (hval 0 26 v0 rfl rfl) h0
 obtain ⟨x, rfl, rfl, -⟩ := open_string Tryz.underlying9 (hval 1 9 v1 rfl rfl) h1
 clear hA0 hval0
 obtain ⟨m, hm⟩ : ∃ m, W.cell? ⟨0, 0, none⟩ = some (.int .i64 m) := Tryz.laysM219.s1_3 W hsh
 have hlt : ∀ x ∈ p0 ++ p1, x.block < W.heap.size := fun x hx => by simpa using hW'.lt x (by simpa using hx)
 refine (storeNobody_any g x m W hm).mono fun en W' ⟨he, hb⟩ => ?_
 subst he
 refine ⟨_, rfl, _, _, _, [], p0 ++ p1, [], hW', trodAll_mk1 (shut_bool Tryz.underlying4 _), trodAll_below hb ?_ hA' hlt, rfl, hb.frame _, fun h => by cases h⟩
 rw [Tryz.params4]
 intro t ht
 simp at ht
 rcases ht with rfl | rfl
 · exact ⟨rt_gav, lt_gav⟩
 · exact ⟨rt_str, lt_str⟩
theorem storeNobody_row : Rows.StoreNobodySaid :=
 OpenClaim.holds_of_wide 4 Tryz.f4 rfl rfl rfl rfl rfl rfl rfl ⟨rfl, rfl, rfl, rfl, rfl⟩ rfl rfl rfl rfl rfl (by kernel_rfl) Tryz.func4 storeNobody_facts
  (of_decide_eq_true (by kernel_rfl)) (by unfold Func.isWrapper; rw [if_neg (of_decide_eq_false (by kernel_rfl))]; exact ⟨rfl, rfl⟩)
  (fun os started H enc _ => storeNobody_lifted os started H enc)
theorem storeNobody_holds : Rows.StoreNobodyCardSaid :=
 Claim7.holds_tied_plain_at .later [] [.data, .pinned] true (true, "f58cf4952fc89b7819b11c44ec632b4ded8169afefd142edd5eea02808833c58") true
  storeNobody_row (fun _ h => by cases h) (by kernel_rfl) (fun _ h => by cases h) storeNobody_row_tie rfl ⟨rfl, rfl⟩ (by kernel_rfl) rfl
  (fun f fn hf hfn => by
   obtain rfl : f = 4 := Option.some.inj ((show Tryz.prog.funcNamed "pomace/pomacelaw09.StoreNobody" = some 4 by kernel_rfl).symm.trans hf) |>.symm
   obtain rfl : fn = Tryz.f4 := (Option.some.inj (Tryz.func4.symm.trans hfn)).symm
   exact ⟨by kernel_rfl, fun j t ht => by
    rw [Tryz.params4] at ht
    have hm : t ∈ [26, 9] := by simpa using Array.mem_of_getElem? ht
    have hall : ([26, 9].all fun u => !Tryz.prog.wantsStandIn u) = true := by kernel_rfl
    exact (show Tryz.prog.wantsStandIn t = false by simpa using List.all_eq_true.1 hall t hm)⟩)
  (by kernel_rfl)

#print axioms storeNobody_holds

end Go.Proofs.YtphaeegbmfpcgaaGreatDoor
