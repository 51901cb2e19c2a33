/- The walk of the law LockFinds; the conditions stand in the theorems. -/
import Derived.Test.YtopknpainclmgaaGreatDoorD16
import Derived.Test.YtopknpainclmgaaGreatDoorD19
import Derived.Test.YtopknpainclmgaaGreatDoorL24
import Derived.Test.YtopknpainclmgaaGreatDoorL3
import Derived.Test.YtopknpainclmgaaGreatDoorG2
import Derived.Test.YtopknpainclmgaaGreatDoorD24x
namespace Go.Proofs.YtopknpainclmgaaGreatDoor
open Go Go.RowKit

theorem eqg_gavF : Tryz.prog.eqGuardType Tryz.prog.depth 42 = false := by kernel_rfl
theorem eqg_pinF : Tryz.prog.eqGuardType Tryz.prog.depth 33 = false := by kernel_rfl
theorem size_lockF : (Tryz.prog.info? 26).map (·.size) = some 4 := by kernel_rfl
theorem size_prbF : (Tryz.prog.info? 42).map (·.size) = some 8 := by kernel_rfl
theorem gr_below {B R : Nat} {w w' : World} (h : w.grownBy w' (some R)) (hB : B ≤ R) (hw : B ≤ w.heap.size) : Below B w w' :=
  ⟨h.os, h.tape, h.output, h.size, fun j hj => h.block j (Nat.lt_of_lt_of_le hj hw) (fun e => by cases e; omega)⟩
/-- A store of all of a block's cells, as a step of a region that draws its order. -/
theorem wp_store_box {P : Program} {op : Oper} {a : Act} {w : World} {K : Act → World → Prop} {Q : Exit → Act → World → Prop} (ty : TypeId) (x y : Operand) (ho : op.op = .store ty x y)
    (b : Nat) (old cs : List Value) (hx : a.eval x = .pointer (some ⟨b, 0, none⟩)) (hy : a.eval y = .agg cs.toArray) (hb : Box w b old) (hl : old.length = cs.length)
    (hi : (P.info? ty).map (·.size) = some cs.length) (h1 : ∀ v ∈ cs, v.oneCell' = true) (h : ∀ W', Box W' b cs → w.grownBy W' (some b) → K (a.put op.dst undef) W') : op.wp P a w K Q := by
  have hth : w.there b 0 cs.toArray.size := fun j hj => by
    have hj' : j < old.length := by rw [hl]; simpa using hj
    refine ⟨?_, by simpa using hb.free (0 + j)⟩
    rw [Nat.zero_add, hb.cell j old[j] (by simp [hj'])]; rfl
  exact wp_store_mid ty x y ho b 0 cs.toArray hx hy hth (by simpa using hi) (all_oneCell_toArray h1) (h _ (hb.setCells hl) (setCells_grown b _ 0 w))
theorem findP_drop {l : List Pin} {k : Key} {j : Nat} (h : j < l.length) : findP (l.drop j) k = if l[j].key = k then some l[j] else findP (l.drop (j + 1)) k := by
  rw [List.drop_eq_getElem_cons h]
  unfold findP
  rw [List.find?_cons]
  by_cases e : l[j].key = k
  · rw [decide_eq_true e, if_pos e]
  · rw [decide_eq_false e, if_neg e]
def lkUpd  (x0 x1 x2 x3 x4 x5 x6 x7 x8 x9 x10 x11 x12 x13 x14 x17 x18 x19 x20 x21 x22 x23 x24 x25 x26 x27 x28 x29 x30 x31 x32 x33 x34 x35 x36 x37 x38 x39 x40 x41 x42 x43 x44 x45 x46 : Value) (f0 f1 _f2 _f3 : Bool)  : Act :=
  ⟨#[x0, x1, x2, x3, x4, x5, x6, x7, x8, x9, x10, x11, x12, x13, x14, cond f0 (.agg #[.string ⟨#[]⟩, .string ⟨#[]⟩, .string ⟨#[]⟩, .slice none 0 0]) undef, cond f1 (.agg #[.int .i64 25, .string ⟨#[]⟩, .string ⟨#[]⟩, .string ⟨#[]⟩, .int .i64 0, .int .i64 0, .int .i64 0, .string ⟨#[]⟩]) undef, x17, x18, x19, x20, x21, x22, x23, x24, x25, x26, x27, x28, x29, x30, x31, x32, x33, x34, x35, x36, x37, x38, x39, x40, x41, x42, x43, x44, x45, x46], []⟩
inductive lkJ (BL BP BQ : Nat) (w V : World) (x0 x1 x2 x3 x4 x5 x6 x7 x8 x9 x10 x11 x12 x13 x14 x17 x18 x19 x20 x21 x22 x23 x24 x25 x26 x27 x28 x29 x30 x31 x32 x33 x34 x35 x36 x37 x38 x39 x40 x41 x42 x43 x44 x45 x46 : Value) : Array Bool → Act → World → Prop where
  | mk (f0 f1 f2 f3 : Bool)  (w' : World) (ch2 : Hid (f2 = true → f0 = true)) (ch3 : Hid (f3 = true → f1 = true ∧ f2 = true)) (hB : (f2 = false → Below V.heap.size V w')) (rl : Box w' BL [.string ⟨#[]⟩, .string ⟨#[]⟩, .string ⟨#[]⟩, .slice none 0 0]) (rp : (f3 = false → Box w' BP [.int .i64 0, .string ⟨#[]⟩, .string ⟨#[]⟩, .string ⟨#[]⟩, .int .i64 0, .int .i64 0, .int .i64 0, .string ⟨#[]⟩])) (rf : (f3 = true → Box w' BP [.int .i64 25, .string ⟨#[]⟩, .string ⟨#[]⟩, .string ⟨#[]⟩, .int .i64 0, .int .i64 0, .int .i64 0, .string ⟨#[]⟩])) (rq : Box w' BQ [.int .i64 25, .string ⟨#[]⟩, .string ⟨#[]⟩, .string ⟨#[]⟩, .int .i64 0, .int .i64 0, .int .i64 0, .string ⟨#[]⟩]) (bw : Below w.heap.size w w') : lkJ BL BP BQ w V x0 x1 x2 x3 x4 x5 x6 x7 x8 x9 x10 x11 x12 x13 x14 x17 x18 x19 x20 x21 x22 x23 x24 x25 x26 x27 x28 x29 x30 x31 x32 x33 x34 x35 x36 x37 x38 x39 x40 x41 x42 x43 x44 x45 x46 #[f0, f1, f2, f3] (lkUpd  x0 x1 x2 x3 x4 x5 x6 x7 x8 x9 x10 x11 x12 x13 x14 x17 x18 x19 x20 x21 x22 x23 x24 x25 x26 x27 x28 x29 x30 x31 x32 x33 x34 x35 x36 x37 x38 x39 x40 x41 x42 x43 x44 x45 x46 f0 f1 f2 f3 ) w'
theorem lkJ.at {BL BP BQ : Nat} {w V : World} {x0 x1 x2 x3 x4 x5 x6 x7 x8 x9 x10 x11 x12 x13 x14 x17 x18 x19 x20 x21 x22 x23 x24 x25 x26 x27 x28 x29 x30 x31 x32 x33 x34 x35 x36 x37 x38 x39 x40 x41 x42 x43 x44 x45 x46 : Value} {listed : Array Bool} {atx : Act} {w' : World} (f0 f1 f2 f3 : Bool)  (hl : listed = #[f0, f1, f2, f3]) (ha : atx = lkUpd  x0 x1 x2 x3 x4 x5 x6 x7 x8 x9 x10 x11 x12 x13 x14 x17 x18 x19 x20 x21 x22 x23 x24 x25 x26 x27 x28 x29 x30 x31 x32 x33 x34 x35 x36 x37 x38 x39 x40 x41 x42 x43 x44 x45 x46 f0 f1 f2 f3 ) (ch2 : Hid (f2 = true → f0 = true)) (ch3 : Hid (f3 = true → f1 = true ∧ f2 = true)) (hB : (f2 = false → Below V.heap.size V w')) (rl : Box w' BL [.string ⟨#[]⟩, .string ⟨#[]⟩, .string ⟨#[]⟩, .slice none 0 0]) (rp : (f3 = false → Box w' BP [.int .i64 0, .string ⟨#[]⟩, .string ⟨#[]⟩, .string ⟨#[]⟩, .int .i64 0, .int .i64 0, .int .i64 0, .string ⟨#[]⟩])) (rf : (f3 = true → Box w' BP [.int .i64 25, .string ⟨#[]⟩, .string ⟨#[]⟩, .string ⟨#[]⟩, .int .i64 0, .int .i64 0, .int .i64 0, .string ⟨#[]⟩])) (rq : Box w' BQ [.int .i64 25, .string ⟨#[]⟩, .string ⟨#[]⟩, .string ⟨#[]⟩, .int .i64 0, .int .i64 0, .int .i64 0, .string ⟨#[]⟩]) (bw : Below w.heap.size w w') : lkJ BL BP BQ w V x0 x1 x2 x3 x4 x5 x6 x7 x8 x9 x10 x11 x12 x13 x14 x17 x18 x19 x20 x21 x22 x23 x24 x25 x26 x27 x28 x29 x30 x31 x32 x33 x34 x35 x36 x37 x38 x39 x40 x41 x42 x43 x44 x45 x46 listed atx w' := by
  subst hl ha
  exact .mk f0 f1 f2 f3  w' ch2 ch3 hB rl rp rf rq bw

set_option maxRecDepth 100000 in
theorem problem_nil (w : World) : Calls Tryz.prog 17 #[.pointer none] w fun e w' => e = .returned (.agg #[.int .i64 25, .string ⟨#[]⟩, .string ⟨#[]⟩, .string ⟨#[]⟩, .int .i64 0, .int .i64 0, .int .i64 0, .string ⟨#[]⟩]) ∧ Below w.heap.size w w' := by
  go_enter Tryz.func17, Tryz.ntmps17
  go_upto_region 1 with fail
  refine wp_world ?_
  intro W hW
  have x : Box W w.heap.size [.int .i64 0, .string ⟨#[]⟩, .string ⟨#[]⟩, .string ⟨#[]⟩, .int .i64 0, .int .i64 0, .int .i64 0, .string ⟨#[]⟩] := by rw [hW]; exact Box.new w [.int .i64 0, .string ⟨#[]⟩, .string ⟨#[]⟩, .string ⟨#[]⟩, .int .i64 0, .int .i64 0, .int .i64 0, .string ⟨#[]⟩] _ _ rfl
  have hb : Below w.heap.size w W := by rw [hW]; exact (Below.refl _ w).alloc (Nat.le_refl _) _
  clear hW
  have HX := Lib.hid x
  have HB : Hid (∀ v0 v1 v2 v3 v4 v5 v6 v7, Below w.heap.size w ((((((((W.setCell ⟨w.heap.size, 0, none⟩ v0).setCell ⟨w.heap.size, 1, none⟩ v1).setCell ⟨w.heap.size, 2, none⟩ v2).setCell ⟨w.heap.size, 3, none⟩ v3).setCell ⟨w.heap.size, 4, none⟩ v4).setCell ⟨w.heap.size, 5, none⟩ v5).setCell ⟨w.heap.size, 6, none⟩ v6).setCell ⟨w.heap.size, 7, none⟩ v7)) := fun v0 v1 v2 v3 v4 v5 v6 v7 => (((((((hb.setCell (by simp) _).setCell (by simp) _).setCell (by simp) _).setCell (by simp) _).setCell (by simp) _).setCell (by simp) _).setCell (by simp) _).setCell (by simp) _
  clear x hb
  have c0 := HX.out.cell 0 _ rfl
  have f0 := HX.out.free 0
  have c1 := HX.out.cell 1 _ rfl
  have f1 := HX.out.free 1
  have c2 := HX.out.cell 2 _ rfl
  have f2 := HX.out.free 2
  have c3 := HX.out.cell 3 _ rfl
  have f3 := HX.out.free 3
  have c4 := HX.out.cell 4 _ rfl
  have f4 := HX.out.free 4
  have c5 := HX.out.cell 5 _ rfl
  have f5 := HX.out.free 5
  have c6 := HX.out.cell 6 _ rfl
  have f6 := HX.out.free 6
  have c7 := HX.out.cell 7 _ rfl
  have f7 := HX.out.free 7
  have cl := HX.out.lt
  go_wp2
  refine bodyPost_ret (v := .agg #[.int .i64 25, .string ⟨#[]⟩, .string ⟨#[]⟩, .string ⟨#[]⟩, .int .i64 0, .int .i64 0, .int .i64 0, .string ⟨#[]⟩]) (by simp [results, Tryz.results17, go_sem, c0, c1, c2, c3, c4, c5, c6, c7]) rfl ?_
  exact ⟨rfl, HB.out _ _ _ _ _ _ _ _⟩
set_option maxRecDepth 100000 in
theorem tree_nil (w : World) : Calls Tryz.prog 22 #[.pointer none] w fun e w' => e = .returned (.slice none 0 0) ∧ Below w.heap.size w w' := by
  go_enter Tryz.func22, Tryz.ntmps22
  go_wp2
  go_ret
  exact ⟨rfl, Below.refl _ _⟩
attribute [local go_sem ↓] eqg_gavF in
set_option maxRecDepth 100000 in
set_option maxHeartbeats 4000000 in
theorem lockOf_nil (g1 g2 g3 : S) (w : World) : Calls Tryz.prog 8 #[.pointer none, .agg #[.string g1, .string g2, .string g3]] w fun e w' => e = .returned (.tuple #[.agg #[.string ⟨#[]⟩, .string ⟨#[]⟩, .string ⟨#[]⟩, .slice none 0 0], .agg #[.int .i64 25, .string ⟨#[]⟩, .string ⟨#[]⟩, .string ⟨#[]⟩, .int .i64 0, .int .i64 0, .int .i64 0, .string ⟨#[]⟩]]) ∧ Below w.heap.size w w' := by
  go_enter Tryz.func8, Tryz.ntmps8
  go_upto_region 1 with fail
  refine wp_world ?_
  intro W hW
  have x1 : Box W (w.heap.size + 1) [.string ⟨#[]⟩, .string ⟨#[]⟩, .string ⟨#[]⟩, .slice none 0 0] := by rw [hW]; exact (Box.new _ [.string ⟨#[]⟩, .string ⟨#[]⟩, .string ⟨#[]⟩, .slice none 0 0] _ _ (by simp)).alloc _
  have x2 : Box W (w.heap.size + 2) [.int .i64 0, .string ⟨#[]⟩, .string ⟨#[]⟩, .string ⟨#[]⟩, .int .i64 0, .int .i64 0, .int .i64 0, .string ⟨#[]⟩] := by rw [hW]; exact Box.new _ [.int .i64 0, .string ⟨#[]⟩, .string ⟨#[]⟩, .string ⟨#[]⟩, .int .i64 0, .int .i64 0, .int .i64 0, .string ⟨#[]⟩] _ _ (by simp)
  have hb : Below w.heap.size w W := by rw [hW]; exact (((Below.refl _ w).alloc (Nat.le_refl _) _).alloc (by simp) _).alloc (by simp; omega) _
  clear hW
  have HL := Lib.hid x1
  have HP := Lib.hid x2
  have HB := Lib.hid hb
  clear x1 x2 hb
  go_wp2_with fail
  refine (problem_nil _).mono ?_
  rintro e w1 ⟨rfl, hb1⟩
  have HNE0 : Hid (w.heap.size + 2 < w1.heap.size) := Lib.hid (Nat.lt_of_lt_of_le HP.out.lt hb1.size)
  have HL1 := Lib.hid (HL.out.below hb1 HL.out.lt)
  have HP1 := Lib.hid (HP.out.below hb1 HP.out.lt)
  have HB1 := Lib.hid (HB.out.trans (hb1.mono HB.out.size))
  clear hb1 HL HP HB
  go_upto_region 2 with fail
  refine wp_world ?_
  intro W2 hW2
  have x3 : Box W2 w1.heap.size [.int .i64 25, .string ⟨#[]⟩, .string ⟨#[]⟩, .string ⟨#[]⟩, .int .i64 0, .int .i64 0, .int .i64 0, .string ⟨#[]⟩] := by rw [hW2]; exact Box.new w1 [.int .i64 25, .string ⟨#[]⟩, .string ⟨#[]⟩, .string ⟨#[]⟩, .int .i64 0, .int .i64 0, .int .i64 0, .string ⟨#[]⟩] _ _ rfl
  have hb2 : Below w1.heap.size w1 W2 := by rw [hW2]; exact (Below.refl _ _).alloc (Nat.le_refl _) _
  clear hW2
  have HQ2 := Lib.hid x3
  have HL2 := Lib.hid (HL1.out.below hb2 HL1.out.lt)
  have HP2 := Lib.hid (HP1.out.below hb2 HP1.out.lt)
  have HB2 := Lib.hid (HB1.out.trans (hb2.mono HB1.out.size))
  clear x3 hb2 HL1 HP1 HB1
  have HNE : Hid (w.heap.size + 1 + 1 < w1.heap.size) := Lib.hid HNE0.out
  clear HNE0
  have q0 := HQ2.out.cell 0 _ rfl
  have q1 := HQ2.out.cell 1 _ rfl
  have q2 := HQ2.out.cell 2 _ rfl
  have q3 := HQ2.out.cell 3 _ rfl
  have q4 := HQ2.out.cell 4 _ rfl
  have q5 := HQ2.out.cell 5 _ rfl
  have q6 := HQ2.out.cell 6 _ rfl
  have q7 := HQ2.out.cell 7 _ rfl
  have ql := HQ2.out.lt
  go_upto_region 3 with fail
  clear q0 q1 q2 q3 q4 q5 q6 q7 ql
  refine wp_region_flags0 (lkJ (w.heap.size + 1) (w.heap.size + 1 + 1) w1.heap.size w W2 _ _ _ _ _ _ _ _ _ _ _ _ _ _ _ _ _ _ _ _ _ _ _ _ _ _ _ _ _ _ _ _ _ _ _ _ _ _ _ _ _ _ _ _ _) (by kernel_rfl) 4 rfl (by kernel_rfl) (lkJ.at false false false false  rfl (by unfold lkUpd; rfl) ?i0 ?i1 ?i2 ?i3 ?i4 ?i5 ?i6 ?i7) ?fin ?step
  case i0 => exact Lib.hid (by simp)
  case i1 => exact Lib.hid (by simp)
  case i2 => exact fun h0 => belowN (Below.refl _ _) 1
  case i3 => exact HL2.out.drewN 1
  case i4 => exact fun _ => HP2.out.drewN 1
  case i5 => exact by simp
  case i6 => exact HQ2.out.drewN 1
  case i7 => exact belowN HB2.out 1
  case fin =>
    intro a' w' hJ
    generalize hl : Array.replicate 4 true = Lz at hJ
    cases hJ with
    | mk f0 f1 f2 f3 _ ch2 ch3 hB rl rp rf rq bw =>
      have hl' : [true, true, true, true] = [f0, f1, f2, f3] := congrArg Array.toList hl
      simp only [List.cons.injEq, and_true] at hl'
      obtain ⟨rfl, rfl, rfl, rfl⟩ := hl'
      clear hl
      unfold lkUpd
      simp only [cond_true]
      have HF1 := Lib.hid rl
      have HF2 := Lib.hid (rf rfl)
      have HBF := Lib.hid bw
      clear ch2 ch3 hB rl rp rf rq bw
      have y0 := HF1.out.cell 0 _ rfl
      have y1 := HF1.out.cell 1 _ rfl
      have y2 := HF1.out.cell 2 _ rfl
      have y3 := HF1.out.cell 3 _ rfl
      have z0 := HF2.out.cell 0 _ rfl
      have z1 := HF2.out.cell 1 _ rfl
      have z2 := HF2.out.cell 2 _ rfl
      have z3 := HF2.out.cell 3 _ rfl
      have z4 := HF2.out.cell 4 _ rfl
      have z5 := HF2.out.cell 5 _ rfl
      have z6 := HF2.out.cell 6 _ rfl
      have z7 := HF2.out.cell 7 _ rfl
      have yl := HF1.out.lt
      have zl := HF2.out.lt
      go_wp2
      refine bodyPost_ret (v := .tuple #[.agg #[.string ⟨#[]⟩, .string ⟨#[]⟩, .string ⟨#[]⟩, .slice none 0 0], .agg #[.int .i64 25, .string ⟨#[]⟩, .string ⟨#[]⟩, .string ⟨#[]⟩, .int .i64 0, .int .i64 0, .int .i64 0, .string ⟨#[]⟩]]) (by simp [results, Tryz.results8, go_sem, y0, y1, y2, y3, z0, z1, z2, z3, z4, z5, z6, z7]) rfl ?_
      exact ⟨rfl, HBF.out⟩
  case step =>
    intro listed a' w' hJ i hi
    cases hJ with
    | mk f0 f1 f2 f3 _ ch2 ch3 hB rl rp rf rq bw =>
      rw [mem_ready] at hi
      obtain ⟨hu, o, ho, ha⟩ := hi
      have hi8 : i < 4 := (Array.getElem?_eq_some_iff.1 ho).1
      rcases (by omega : i = 0 ∨ i = 1 ∨ i = 2 ∨ i = 3) with rfl | rfl | rfl | rfl
      · have ho' := ho
        simp at hu ho
        subst hu ho
        clear ha
        have e2 : f2 = false := Bool.eq_false_iff.2 fun h => Bool.false_ne_true ((ch2.out h))
        have e3 : f3 = false := Bool.eq_false_iff.2 fun h => Bool.false_ne_true ((ch2.out (ch3.out h).2))
        subst e2 e3
        refine .inl ?_
        unfold lkUpd Oper.wp
        go_simp
        exact lkJ.at true f1 false false rfl rfl (Lib.hid (by simp)) (Lib.hid (by simp)) (hB) (rl) (rp) (by simp) (rq) (bw)
      · have ho' := ho
        simp at hu ho
        subst hu ho
        clear ha
        have e3 : f3 = false := Bool.eq_false_iff.2 fun h => Bool.false_ne_true ((ch3.out h).1)
        subst e3
        have q0 := rq.cell 0 _ rfl
        have q1 := rq.cell 1 _ rfl
        have q2 := rq.cell 2 _ rfl
        have q3 := rq.cell 3 _ rfl
        have q4 := rq.cell 4 _ rfl
        have q5 := rq.cell 5 _ rfl
        have q6 := rq.cell 6 _ rfl
        have q7 := rq.cell 7 _ rfl
        have ql := rq.lt
        refine .inl ?_
        unfold lkUpd Oper.wp
        go_simp
        exact lkJ.at f0 true f2 false rfl rfl (ch2) (Lib.hid (by simp)) (hB) (rl) (rp) (by simp) (rq) (bw)
      · have ho' := ho
        simp at hu ho
        subst hu ho
        simp [Region.binds] at ha
        obtain rfl : f0 = true := by simp only [ha]
        clear ha
        have e3 : f3 = false := Bool.eq_false_iff.2 fun h => Bool.false_ne_true ((ch3.out h).2)
        subst e3
        refine .inl ?_
        unfold lkUpd
        refine wp_store_box 26 (.tmp 4) (.tmp 15) rfl (w.heap.size + 1) [.string ⟨#[]⟩, .string ⟨#[]⟩, .string ⟨#[]⟩, .slice none 0 0] [.string ⟨#[]⟩, .string ⟨#[]⟩, .string ⟨#[]⟩, .slice none 0 0] (by simp [Act.eval]) (by simp [Act.eval]) rl rfl size_lockF (by simp [Value.oneCell']) ?_
        intro wz hz1 hg1
        exact lkJ.at true f1 true false rfl rfl (Lib.hid (by simp)) (Lib.hid (by simp)) (by simp) (hz1) (fun h0 => (rp h0).grown hg1 (by simp)) (by simp) (rq.grown hg1 (by have := HNE.out; simp; omega)) (bw.trans (gr_below hg1 (by omega) bw.size))
      · have ho' := ho
        simp at hu ho
        subst hu ho
        simp [Region.binds] at ha
        obtain rfl : f1 = true := by simp only [ha]
        obtain rfl : f2 = true := by simp only [ha]
        clear ha
        obtain rfl : f0 = true := (ch2.out rfl)
        refine .inl ?_
        unfold lkUpd
        refine wp_store_box 42 (.tmp 5) (.tmp 16) rfl (w.heap.size + 1 + 1) [.int .i64 0, .string ⟨#[]⟩, .string ⟨#[]⟩, .string ⟨#[]⟩, .int .i64 0, .int .i64 0, .int .i64 0, .string ⟨#[]⟩] [.int .i64 25, .string ⟨#[]⟩, .string ⟨#[]⟩, .string ⟨#[]⟩, .int .i64 0, .int .i64 0, .int .i64 0, .string ⟨#[]⟩] (by simp [Act.eval]) (by simp [Act.eval]) (rp rfl) rfl size_prbF (by simp [Value.oneCell']) ?_
        intro wz hz1 hg1
        exact lkJ.at true true true true rfl rfl (Lib.hid (by simp)) (Lib.hid (by simp)) (by simp) (rl.grown hg1 (by simp)) (by simp) (fun h0 => hz1) (rq.grown hg1 (by have := HNE.out; simp; omega)) (bw.trans (gr_below hg1 (by omega) bw.size))
attribute [local go_sem ↓] eqg_gavF in
set_option maxRecDepth 100000 in
set_option maxHeartbeats 4000000 in
theorem holds_nil (g1 g2 g3 : S) (pv : Value) (hpv : ∃ a n c, pv = .slice a n c) (w : World) : Calls Tryz.prog 9 #[.pointer none, .agg #[.string g1, .string g2, .string g3, pv]] w fun e w' => e = .returned (.bool false) ∧ Below w.heap.size w w' := by
  obtain ⟨pa, pn, pc, rfl⟩ := hpv
  go_enter Tryz.func9, Tryz.ntmps9
  go_upto_region 1 with fail
  refine wp_world ?_
  intro W hW
  have x1 : Box W w.heap.size [.string g1, .string g2, .string g3, .slice pa pn pc] := by rw [hW]; exact Box.new w [.string g1, .string g2, .string g3, .slice pa pn pc] _ _ rfl
  have hb : Below w.heap.size w W := by rw [hW]; exact (Below.refl _ w).alloc (Nat.le_refl _) _
  clear hW
  have HX := Lib.hid x1
  have HB := Lib.hid hb
  clear x1 hb
  have c0 := HX.out.cell 0 _ rfl
  have c1 := HX.out.cell 1 _ rfl
  have c2 := HX.out.cell 2 _ rfl
  have cl := HX.out.lt
  go_wp2_with fail
  refine (lockOf_nil g1 g2 g3 _).mono ?_
  rintro e w1 ⟨rfl, hb1⟩
  have HB1 := Lib.hid (HB.out.trans (hb1.mono HB.out.size))
  clear hb1 HX HB c0 c1 c2 cl
  go_upto_region 2 with fail
  refine wp_world ?_
  intro W2 hW2
  have x2 : Box W2 (w1.heap.size + 1) [.int .i64 25, .string ⟨#[]⟩, .string ⟨#[]⟩, .string ⟨#[]⟩, .int .i64 0, .int .i64 0, .int .i64 0, .string ⟨#[]⟩] := by rw [hW2]; exact Box.new _ [.int .i64 25, .string ⟨#[]⟩, .string ⟨#[]⟩, .string ⟨#[]⟩, .int .i64 0, .int .i64 0, .int .i64 0, .string ⟨#[]⟩] _ _ (by simp)
  have hb2 : Below w1.heap.size w1 W2 := by rw [hW2]; exact ((Below.refl _ _).alloc (Nat.le_refl _) _).alloc (by simp) _
  clear hW2
  have HX2 := Lib.hid x2
  have HB2 := Lib.hid (HB1.out.trans (hb2.mono HB1.out.size))
  clear x2 hb2 HB1
  go_wp2_with fail
  refine (tree_nil _).mono ?_
  rintro e w3 ⟨rfl, hb3⟩
  have HX3 := Lib.hid (HX2.out.below hb3 HX2.out.lt)
  have HB3 := Lib.hid (HB2.out.trans (hb3.mono HB2.out.size))
  clear hb3 HX2 HB2
  have q0 := HX3.out.cell 0 _ rfl
  have q1 := HX3.out.cell 1 _ rfl
  have q2 := HX3.out.cell 2 _ rfl
  have q3 := HX3.out.cell 3 _ rfl
  have q4 := HX3.out.cell 4 _ rfl
  have q5 := HX3.out.cell 5 _ rfl
  have q6 := HX3.out.cell 6 _ rfl
  have q7 := HX3.out.cell 7 _ rfl
  have ql := HX3.out.lt
  go_wp2
  go_ret
  exact ⟨rfl, HB3.out⟩
theorem neq_pinS (p : Pin) (w : World) : (binOp .neq 33 (.agg #[.string p.key.group, .string p.key.artifact, .string p.key.type, .string p.key.classifier, .string p.version, .int .i64 p.scope]) (.agg #[.string p.key.group, .string p.key.artifact, .string p.key.type, .string p.key.classifier, .string p.version, .int .i64 p.scope])).run Tryz.prog w = .ok (.bool false) w := by
  rw [neq_pinB]
  simp [pinEq]
attribute [local go_sem ↓] eqg_pinF neq_pinS in
set_option maxRecDepth 100000 in
set_option maxHeartbeats 16000000 in
theorem lockFinds_any (l : Lock) (lv : Value) (k : Key) (m : Int) (w : World) (hm : w.cell? ⟨0, 0, none⟩ = some (.int .i64 m)) (hl : SliceOf 6 pinC w lv l.pins) :
    Calls Tryz.prog 3 #[.agg (lockC l lv).toArray, .agg #[.string k.group, .string k.artifact, .string k.type, .string k.classifier]] w fun e w' => e = .returned (.bool true) ∧ Below w.heap.size w w' := by
  have hw0 : 0 < w.heap.size := World.block_lt_of_cell? w _ hm
  obtain ⟨po, pc, rfl⟩ := hl.shape
  have hlm : l.pins.length ≤ 9223372036854775807 := by obtain ⟨a, c, e, h2, h3, -⟩ := hl; exact Nat.le_trans h2 (Nat.le_trans h3 (by decide))
  have HLV : Hid (∀ W, Below w.heap.size w W → Calls Tryz.prog 5 #[] W fun e w' => e = .returned (.bool true) ∧ Below W.heap.size W w') := fun W h => lives_any m W ((h.cell (by exact hw0)).trans hm)
  have HLI : Hid (∀ W, Below w.heap.size w W → Calls Tryz.prog 4 #[.agg #[.string l.root.group, .string l.root.artifact, .string l.root.version, .slice po l.pins.length pc]] W (RetB (l.pins.length ≤ 40) W)) := fun W h => light_weak l (.slice po l.pins.length pc) W (hl.below h)
  have HPN := Lib.hid hl
  unfold lockC
  clear hm hl hw0
  go_enter Tryz.func3, Tryz.ntmps3
  go_upto_region 1 with fail
  refine wp_world ?_
  intro W hW
  have x1 : Box W w.heap.size [.string l.root.group, .string l.root.artifact, .string l.root.version, .slice po l.pins.length pc] := by rw [hW]; exact (Box.new w [.string l.root.group, .string l.root.artifact, .string l.root.version, .slice po l.pins.length pc] _ _ rfl).alloc _
  have x2 : Box W (w.heap.size + 1) [.string k.group, .string k.artifact, .string k.type, .string k.classifier] := by rw [hW]; exact Box.new _ [.string k.group, .string k.artifact, .string k.type, .string k.classifier] _ _ (by simp)
  have hb : Below w.heap.size w W := by rw [hW]; exact ((Below.refl _ w).alloc (Nat.le_refl _) _).alloc (by simp) _
  clear hW
  have HX := Lib.hid x1
  have HK := Lib.hid x2
  have HB := Lib.hid hb
  clear x1 x2 hb
  have c0 := HX.out.cell 0 _ rfl
  have c1 := HX.out.cell 1 _ rfl
  have c2 := HX.out.cell 2 _ rfl
  have c3 := HX.out.cell 3 _ rfl
  have cl := HX.out.lt
  go_wp2_with fail
  refine (HLI.out _ HB.out).mono ?_
  intro e w1 hO
  obtain ⟨b, rfl, hbt, hb1⟩ := hO
  have HBT := Lib.hid hbt
  have HX1 := Lib.hid (HX.out.below hb1 HX.out.lt)
  have HK1 := Lib.hid (HK.out.below hb1 HK.out.lt)
  have HB1 := Lib.hid (HB.out.trans (hb1.mono HB.out.size))
  clear hbt hb1 HX HK HB HLI c0 c1 c2 c3 cl
  cases b with
  | false =>
    go_wp2_with fail
    refine (HLV.out _ HB1.out).mono ?_
    rintro e w8 ⟨rfl, hb8⟩
    have HB8 := Lib.hid (HB1.out.trans (hb8.mono HB1.out.size))
    clear hb8 HLV
    go_wp2
    go_ret
    exact ⟨rfl, HB8.out⟩
  | true =>
    have hl40 : l.pins.length ≤ 40 := HBT.out rfl
    clear HBT
    have c0 := HK1.out.cell 0 _ rfl
    have c1 := HK1.out.cell 1 _ rfl
    have c2 := HK1.out.cell 2 _ rfl
    have c3 := HK1.out.cell 3 _ rfl
    have cl := HK1.out.lt
    go_upto_region 4 with fail
    refine wp_world ?_
    intro W3 hW3
    obtain ⟨KS, hKS⟩ : ∃ KS : List Key, KS = [k, ⟨⟨#[103]⟩, ⟨#[98]⟩, ⟨#[106, 97, 114]⟩, ⟨#[]⟩⟩] := ⟨_, rfl⟩
    have hsl : SliceOf 4 keyC W3 (.slice (some ⟨w1.heap.size, 0, none⟩) 2 2) KS := by rw [hW3, hKS]; exact sliceLit (n := 4) (C := keyC) (fun _ => rfl) w1 [k, ⟨⟨#[103]⟩, ⟨#[98]⟩, ⟨#[106, 97, 114]⟩, ⟨#[]⟩⟩] 28 w1.heap.size 2 rfl rfl (by unfold maxLen; simp)
    have hb3 : Below w1.heap.size w1 W3 := by rw [hW3]; exact (Below.refl _ _).alloc (Nat.le_refl _) _
    have hkl : KS.length = 2 := by rw [hKS]; rfl
    have HSL := Lib.hid hsl
    have HKL := Lib.hid hkl
    have HX3 := Lib.hid (HX1.out.below hb3 HX1.out.lt)
    have HB3 := Lib.hid (HB1.out.trans (hb3.mono HB1.out.size))
    clear hW3 hsl hb3 hkl hKS HX1 HK1 HB1 c0 c1 c2 c3 cl
    go_wp2
    go_loopw [23] (fun iv wr => ∃ i : Nat, i ≤ 2 ∧ iv = .int .i64 i ∧ Hid (Below W3.heap.size W3 wr)) (fun iv _ => 2 - (intOf iv).toNat)
    case atStart => exact ⟨0, by decide, rfl, Below.refl _ _⟩
    case round =>
      obtain ⟨i, hi, rfl, HR⟩ := hrel
      have HXR := Lib.hid (HX3.out.below HR.out HX3.out.lt)
      have HBR := Lib.hid (HB3.out.trans (HR.out.mono HB3.out.size))
      by_cases hlt : i < 2
      · have hiI : (i : Int) < 2 := by omega
        obtain ⟨g, o, hgo, hg, hcl⟩ := (HSL.out.below HR.out).at (k := i) (by rw [HKL.out]; exact hlt)
        simp only [Option.some.injEq, Addr.mk.injEq, and_true] at hgo
        obtain ⟨rfl, rfl⟩ := hgo
        obtain ⟨q, hq⟩ : ∃ q, q = KS[i]'(by rw [HKL.out]; exact hlt) := ⟨_, rfl⟩
        rw [← hq] at hcl
        have c0 := hcl 0 _ rfl
        have c1 := hcl 1 _ rfl
        have c2 := hcl 2 _ rfl
        have c3 := hcl 3 _ rfl
        simp only [Nat.add_zero, Nat.zero_add] at c0 c1 c2 c3
        have HLT := Lib.hid hlt
        clear hcl hq
        go_upto_region 7 with fail
        refine wp_world ?_
        intro W6 hW6
        have x6 : Box W6 wr.heap.size [.string q.group, .string q.artifact, .string q.type, .string q.classifier] := by rw [hW6]; exact (Box.new wr [.string q.group, .string q.artifact, .string q.type, .string q.classifier] _ _ rfl).alloc _
        have x7 : Box W6 (wr.heap.size + 1) [.string ⟨#[]⟩, .string ⟨#[]⟩, .string ⟨#[]⟩, .string ⟨#[]⟩, .string ⟨#[]⟩, .int .i64 0] := by rw [hW6]; exact Box.new _ [.string ⟨#[]⟩, .string ⟨#[]⟩, .string ⟨#[]⟩, .string ⟨#[]⟩, .string ⟨#[]⟩, .int .i64 0] _ _ (by simp)
        have hb6 : Below wr.heap.size wr W6 := by rw [hW6]; exact ((Below.refl _ _).alloc (Nat.le_refl _) _).alloc (by simp) _
        clear hW6 c0 c1 c2 c3 hg
        have HQ6 := Lib.hid x6
        have HN6 := Lib.hid x7
        have HX6 := Lib.hid (HXR.out.below hb6 HXR.out.lt)
        have HB6 := Lib.hid (HBR.out.trans (hb6.mono HBR.out.size))
        have HR6 := Lib.hid (HR.out.trans (hb6.mono HR.out.size))
        have HS6 : Hid (w.heap.size < wr.heap.size ∧ W3.heap.size ≤ wr.heap.size ∧ wr.heap.size + 1 < W6.heap.size) := ⟨HXR.out.lt, HR.out.size, x7.lt⟩
        clear x6 x7 hb6 HXR HBR HR
        have HPN6 := Lib.hid (HPN.out.below HB6.out)
        have HPN7 : Hid (∀ wx : World, W6.grownBy wx (some (wr.heap.size + 1)) → SliceOf 6 pinC wx (.slice po l.pins.length pc) l.pins) := fun wx hg => HPN.out.below (HB6.out.trans ⟨hg.os, hg.tape, hg.output, hg.size, fun j hj => hg.block j (Nat.lt_of_lt_of_le hj HB6.out.size) (fun e => by cases e; have := HS6.out; omega)⟩)
        have d0 := HX6.out.cell 0 _ rfl
        have d1 := HX6.out.cell 1 _ rfl
        have d2 := HX6.out.cell 2 _ rfl
        have d3 := HX6.out.cell 3 _ rfl
        have dl := HX6.out.lt
        obtain ⟨wo, rfl⟩ : ∃ wo : World, wo = wr := ⟨_, rfl⟩
        go_wp2
        clear d0 d1 d2 d3 dl
        go_loopw [8, 9] (fun bv iv wx => ∃ (j : Nat) (z : Int), j ≤ l.pins.length ∧ z = (j : Int) - 1 ∧ iv = .int .i64 z ∧ bv = .bool (findP (l.pins.drop j) q).isSome ∧ Hid (Box wx (wo.heap.size + 1) (pinC ((findP (l.pins.drop j) q).getD noPin)) ∧ W6.grownBy wx (some (wo.heap.size + 1)))) (fun _ iv _ => (intOf iv + 1).toNat)
        case atStart => exact ⟨l.pins.length, _, Nat.le_refl _, rfl, rfl, by rw [List.drop_length]; rfl, by rw [List.drop_length]; exact HN6.out, World.grownBy.refl _ _⟩
        case round =>
          obtain ⟨j, z, hj, hz, rfl, hbv, HJ⟩ := hrel
          have HQJ := Lib.hid (HQ6.out.grown HJ.out.2 (by simp))
          have HXJ := Lib.hid (HX6.out.grown HJ.out.2 (by have := HS6.out; simp; omega))
          have HPJ := Lib.hid (HPN7.out _ HJ.out.2)
          cases j with
          | succ m =>
            obtain rfl : z = (m : Int) := by omega
            clear hz
            have hml : m < l.pins.length := hj
            have hmI : (m : Int) < (l.pins.length : Int) := by omega
            have hm0 : (0 : Int) ≤ (m : Int) := by omega
            have HFD := Lib.hid (findP_drop (k := q) hml)
            obtain ⟨g, o, rfl, hg, hc⟩ := HPJ.out.pinAtF hml
            have HMG := Lib.hid hml
            generalize l.pins[m]'hml = p at hc HFD
            have c0 := hc 0 _ rfl
            have c1 := hc 1 _ rfl
            have c2 := hc 2 _ rfl
            have c3 := hc 3 _ rfl
            have c4 := hc 4 _ rfl
            have c5 := hc 5 _ rfl
            simp only [Nat.add_zero] at c0
            clear hc
            have d0 := HXJ.out.cell 0 _ rfl
            have d1 := HXJ.out.cell 1 _ rfl
            have d2 := HXJ.out.cell 2 _ rfl
            have d3 := HXJ.out.cell 3 _ rfl
            have dl := HXJ.out.lt
            have e0 := HQJ.out.cell 0 _ rfl
            have e1 := HQJ.out.cell 1 _ rfl
            have e2 := HQJ.out.cell 2 _ rfl
            have e3 := HQJ.out.cell 3 _ rfl
            have el := HQJ.out.lt
            have hLL := @Later.cells wr
            obtain ⟨c, hcc⟩ : ∃ c, cmpK p.key q = c := ⟨_, rfl⟩
            have HC : Hid (∀ x : Later wr, Calls Tryz.prog 6 #[.agg #[.string p.key.group, .string p.key.artifact, .string p.key.type, .string p.key.classifier], .agg #[.string q.group, .string q.artifact, .string q.type, .string q.classifier]] x.at_ fun e w'' => e = .returned (.int .i64 c) ∧ ∃ y : Later wr, w'' = y.at_) := fun x => hcc ▸ Later.call (refCompare_any p.key q x.at_)
            by_cases hk : p.key = q
            · obtain rfl : c = 0 := by rw [← hcc]; exact cmpK_zero.2 hk
              have HFE : Hid (findP (l.pins.drop m) q = some p) := by show _ = _; rw [HFD.out, if_pos hk]
              clear hcc hk HFD
              go_upto_region 10 with fail
              refine region_later (by kernel_rfl) (by kernel_rfl) ?_
              repeat (go_big_quiet_step ((go_at_call 6; exact HC.out _)))
              refine wpQuiet_nil ?_
              rintro _ ⟨nx, rfl⟩
              have hnx := nx.below
              have b0 := (hnx.cell (by exact hg)).trans c0
              have b1 := (hnx.cell (by exact hg)).trans c1
              have b2 := (hnx.cell (by exact hg)).trans c2
              have b3 := (hnx.cell (by exact hg)).trans c3
              have b4 := (hnx.cell (by exact hg)).trans c4
              have b5 := (hnx.cell (by exact hg)).trans c5
              have HXN := Lib.hid (HXJ.out.below hnx HXJ.out.lt)
              have HJN := Lib.hid (And.intro (HJ.out.1.below hnx HJ.out.1.lt) (HJ.out.2.trans (⟨hnx.os, hnx.tape, hnx.output, hnx.size, fun j hj _ => hnx.block j hj⟩ : wr.grownBy nx.at_ (some (wo.heap.size + 1)))))
              have hgn := Nat.lt_of_lt_of_le hg hnx.size
              clear hLL hnx HC HXJ HQJ HJ HPJ c0 c1 c2 c3 c4 c5 d0 d1 d2 d3 e0 e1 e2 e3 dl el hg
              generalize nx.at_ = wn at *
              clear nx
              have n0 := HXN.out.cell 0 _ rfl
              have n1 := HXN.out.cell 1 _ rfl
              have n2 := HXN.out.cell 2 _ rfl
              have n3 := HXN.out.cell 3 _ rfl
              have nl := HXN.out.lt
              go_wp2_with ((with_reducible show wpList _ _ _ (Oper.mk none (Op.store 33 (.tmp 7) (.tmp 49)) _ _ _ _ :: _) _ _); refine wpList_store_box rfl 33 (.tmp 7) (.tmp 49) rfl (wo.heap.size + 1) (pinC ((findP (l.pins.drop (m + 1)) q).getD noPin)) [.string p.key.group, .string p.key.artifact, .string p.key.type, .string p.key.classifier, .string p.version, .int .i64 p.scope] rfl rfl HJN.out.1 rfl size_pinF (by simp [Value.oneCell']) ?_; intro W9 v9 hg9; have HV9 := Lib.hid (And.intro v9 (HJN.out.2.trans hg9)); clear hg9 v9)
              go_roundw
              case rel => exact ⟨m, _, by have := HMG.out; omega, rfl, by go_num, by rw [HFE.out]; rfl, by rw [HFE.out]; exact HV9.out⟩
              case measure => simp [intOf]
            · have hc0 : ¬ c = 0 := fun h => hk (cmpK_zero.1 (hcc.trans h))
              have e1 : (c == 0) = false := by simpa using hc0
              have e2 : decide (c = 0) = false := decide_eq_false hc0
              have HFE : Hid (findP (l.pins.drop m) q = findP (l.pins.drop (m + 1)) q) := by show _ = _; rw [HFD.out, if_neg hk]
              clear hcc hk HFD
              go_upto_region 10 with fail
              refine region_later (by kernel_rfl) (by kernel_rfl) ?_
              repeat (go_big_quiet_step ((go_at_call 6; exact HC.out _)))
              refine wpQuiet_nil ?_
              rintro _ ⟨nx, rfl⟩
              have hnx := nx.below
              have b0 := (hnx.cell (by exact hg)).trans c0
              have b1 := (hnx.cell (by exact hg)).trans c1
              have b2 := (hnx.cell (by exact hg)).trans c2
              have b3 := (hnx.cell (by exact hg)).trans c3
              have b4 := (hnx.cell (by exact hg)).trans c4
              have b5 := (hnx.cell (by exact hg)).trans c5
              have HXN := Lib.hid (HXJ.out.below hnx HXJ.out.lt)
              have HJN := Lib.hid (And.intro (HJ.out.1.below hnx HJ.out.1.lt) (HJ.out.2.trans (⟨hnx.os, hnx.tape, hnx.output, hnx.size, fun j hj _ => hnx.block j hj⟩ : wr.grownBy nx.at_ (some (wo.heap.size + 1)))))
              have hgn := Nat.lt_of_lt_of_le hg hnx.size
              clear hLL hnx HC HXJ HQJ HJ HPJ c0 c1 c2 c3 c4 c5 d0 d1 d2 d3 e0 e1 e2 e3 dl el hg
              generalize nx.at_ = wn at *
              clear nx
              have n0 := HXN.out.cell 0 _ rfl
              have n1 := HXN.out.cell 1 _ rfl
              have n2 := HXN.out.cell 2 _ rfl
              have n3 := HXN.out.cell 3 _ rfl
              have nl := HXN.out.lt
              go_wp2
              go_roundw
              case rel => exact ⟨m, _, by have := HMG.out; omega, rfl, by go_num, by rw [HFE.out]; exact hbv, by rw [HFE.out]; exact HJN.out⟩
              case measure => simp [intOf]
          | zero =>
            obtain rfl : z = -1 := by simpa using hz
            clear hz
            obtain ⟨pw, hpw⟩ : ∃ pw, pw = (findP l.pins q).getD noPin := ⟨_, rfl⟩
            obtain ⟨bw, hbw⟩ : ∃ bw, bw = (findP l.pins q).isSome := ⟨_, rfl⟩
            rw [List.drop_zero, ← hbw] at hbv
            subst hbv
            have HW : Hid (Box wr (wo.heap.size + 1) [.string pw.key.group, .string pw.key.artifact, .string pw.key.type, .string pw.key.classifier, .string pw.version, .int .i64 pw.scope]) := by have := HJ.out.1; rw [List.drop_zero, ← hpw] at this; exact this
            have HLF : Hid (Calls Tryz.prog 7 #[.agg #[.string l.root.group, .string l.root.artifact, .string l.root.version, .slice po l.pins.length pc], .agg #[.string q.group, .string q.artifact, .string q.type, .string q.classifier]] wr fun e w' => e = .returned (.tuple #[.agg #[.string pw.key.group, .string pw.key.artifact, .string pw.key.type, .string pw.key.classifier, .string pw.version, .int .i64 pw.scope], .bool bw]) ∧ Below wr.heap.size wr w') := by rw [hpw, hbw]; exact lockFind_any l q (.slice po l.pins.length pc) wr HPJ.out
            have HRW : Hid (Below W3.heap.size W3 wr) := HR6.out.trans ⟨HJ.out.2.os, HJ.out.2.tape, HJ.out.2.output, HJ.out.2.size, fun j hj => HJ.out.2.block j (Nat.lt_of_lt_of_le hj HR6.out.size) (fun e => by cases e; have := HS6.out; omega)⟩
            clear hpw hbw HPJ HPN7 HJ
            have d0 := HXJ.out.cell 0 _ rfl
            have d1 := HXJ.out.cell 1 _ rfl
            have d2 := HXJ.out.cell 2 _ rfl
            have d3 := HXJ.out.cell 3 _ rfl
            have dl := HXJ.out.lt
            have e0 := HQJ.out.cell 0 _ rfl
            have e1 := HQJ.out.cell 1 _ rfl
            have e2 := HQJ.out.cell 2 _ rfl
            have e3 := HQJ.out.cell 3 _ rfl
            have el := HQJ.out.lt
            go_wp2_with fail
            refine HLF.out.mono ?_
            rintro e w8 ⟨rfl, hb8⟩
            have HW8 := Lib.hid (HW.out.below hb8 HW.out.lt)
            have HR8 := Lib.hid (HRW.out.trans (hb8.mono HRW.out.size))
            clear d0 d1 d2 d3 dl e0 e1 e2 e3 el hb8 HLF HW HRW HXJ HQJ
            have y0 := HW8.out.cell 0 _ rfl
            have y1 := HW8.out.cell 1 _ rfl
            have y2 := HW8.out.cell 2 _ rfl
            have y3 := HW8.out.cell 3 _ rfl
            have y4 := HW8.out.cell 4 _ rfl
            have y5 := HW8.out.cell 5 _ rfl
            have yl := HW8.out.lt
            cases bw
            · go_wp2
              go_roundw
              case rel => exact ⟨i + 1, by have := HLT.out; omega, by go_num, HR8.out.alloc HR8.out.size _⟩
              case measure => simp [intOf]; have := HLT.out; omega
            · go_wp2
              go_roundw
              case rel => exact ⟨i + 1, by have := HLT.out; omega, by go_num, HR8.out.alloc HR8.out.size _⟩
              case measure => simp [intOf]; have := HLT.out; omega
      · obtain rfl : i = 2 := by omega
        have d0 := HXR.out.cell 0 _ rfl
        have d1 := HXR.out.cell 1 _ rfl
        have d2 := HXR.out.cell 2 _ rfl
        have d3 := HXR.out.cell 3 _ rfl
        have dl := HXR.out.lt
        go_wp2_with fail
        refine (lockOf_nil _ _ _ _).mono ?_
        rintro e w3 ⟨rfl, hb3⟩
        have HX4 := Lib.hid (HXR.out.below hb3 HXR.out.lt)
        have HB4 := Lib.hid (HBR.out.trans (hb3.mono HBR.out.size))
        clear d0 d1 d2 d3 dl hb3 HXR HBR HR
        have d0 := HX4.out.cell 0 _ rfl
        have d1 := HX4.out.cell 1 _ rfl
        have d2 := HX4.out.cell 2 _ rfl
        have d3 := HX4.out.cell 3 _ rfl
        have dl := HX4.out.lt
        go_wp2_with fail
        refine (holds_nil _ _ _ _ ⟨_, _, _, rfl⟩ _).mono ?_
        rintro e w5 ⟨rfl, hb5⟩
        have HB5 := Lib.hid (((HB4.out.alloc HB4.out.size _).alloc (by have := HB4.out.size; simp; omega) _).trans (hb5.mono (by have := HB4.out.size; simp; omega)))
        clear d0 d1 d2 d3 dl hb5 HX4 HB4
        go_wp2_with fail
        refine (HLV.out _ HB5.out).mono ?_
        rintro e w8 ⟨rfl, hb8⟩
        have HB8 := Lib.hid (HB5.out.trans (hb8.mono HB5.out.size))
        clear hb8 HLV
        go_wp2
        go_ret
        exact ⟨rfl, HB8.out⟩

end Go.Proofs.YtopknpainclmgaaGreatDoor
