/- The walk of All; its conditions stand in the theorem. -/
import Derived.Test.YtpchljiiappmnaaK24
import Derived.Test.YtpchljiiappmnaaK25
import Derived.Test.YtpchljiiappmnaaK26
namespace Go.Proofs.Ytpchljiiappmnaa
open Go Go.RowKit

/-- The tokens of a text in memory. -/
structure TokSl (base : Nat) (w : World) (s : S) (ov : Value) (L : List TkM) (acc : List (Tk × Bs)) : Prop where
  own : Owns base 34 7 tkC w ov L
  att : ∀ x ∈ L, Owns base 43 2 atC w x.av x.t.attrs
  is : L.map (fun x => (x.t, x.off, x.line, x.col)) = acc.map (fun p => (p.1, (pos s p.2 : Int), ((lineCol (s.data.toList.take (pos s p.2))).1 : Int), ((lineCol (s.data.toList.take (pos s p.2))).2 : Int)))

def zeroPlace : Value := .agg #[.int .i64 0, .int .i64 0, .int .i64 0]
/-- What All returns. -/
def AllOut (s : S) (w : World) : Res (List (Tk × Bs)) → Ending → World → Prop
  | .ok acc _ => fun e w' => ∃ ov L, e = .returned (.tuple #[ov, .int .i64 0, zeroPlace]) ∧ TokSl w.heap.size w' s ov L acc ∧ Below w.heap.size w w'
  | .bad x r => fun e w' => e = .returned (.tuple #[.slice none 0 0, .int .i64 x, placeV s.data.toList (pos s r)]) ∧ Below w.heap.size w w'

/-- The four variables that All's results and its closure share. -/
structure Vars (W : World) (B : Nat) (s : S) (v1 v2 p0 p1 p2 : Value) : Prop where
  x0 : Box W B [.string s]
  x1 : Box W (B + 1) [v1]
  x2 : Box W (B + 2) [v2]
  x3 : Box W (B + 3) [p0, p1, p2]

theorem Vars.made (w : World) (s : S) : Vars ((((w.alloc (.cells #[.string s] 9)).alloc (.cells #[.slice none 0 0] 23)).alloc (.cells #[.int .i64 0] 24)).alloc (.cells #[.int .i64 0, .int .i64 0, .int .i64 0] 26)) w.heap.size s (.slice none 0 0) (.int .i64 0) (.int .i64 0) (.int .i64 0) (.int .i64 0) :=
  ⟨(((Box.new w [.string s] _ _ rfl).alloc _).alloc _).alloc _, (((Box.new _ [.slice none 0 0] _ _ (by simp)).alloc _).alloc _), ((Box.new _ [.int .i64 0] _ _ (by simp)).alloc _), Box.new _ [.int .i64 0, .int .i64 0, .int .i64 0] _ _ (by simp)⟩

theorem Vars.below {W W' : World} {B : Nat} {s : S} {v1 v2 p0 p1 p2 : Value} (h : Vars W B s v1 v2 p0 p1 p2) (hb : Below W.heap.size W W') : Vars W' B s v1 v2 p0 p1 p2 :=
  ⟨h.x0.below hb h.x0.lt, h.x1.below hb h.x1.lt, h.x2.below hb h.x2.lt, h.x3.below hb h.x3.lt⟩
theorem Vars.belowB {W W' : World} {B C : Nat} {s : S} {v1 v2 p0 p1 p2 : Value} (h : Vars W B s v1 v2 p0 p1 p2) (hb : Below C W W') (hC : B + 3 < C) : Vars W' B s v1 v2 p0 p1 p2 :=
  ⟨h.x0.below hb (by omega), h.x1.below hb (by omega), h.x2.below hb (by omega), h.x3.below hb (by omega)⟩

theorem Vars.store {W : World} {B : Nat} {s : S} {v1 v2 p0 p1 p2 : Value} (h : Vars W B s v1 v2 p0 p1 p2) (u1 u2 q0 q1 q2 : Value) : Vars (((((W.setCell ⟨B + 1, 0, none⟩ u1).setCell ⟨B + 2, 0, none⟩ u2).setCell ⟨B + 3, 0, none⟩ q0).setCell ⟨B + 3, 1, none⟩ q1).setCell ⟨B + 3, 2, none⟩ q2) B s u1 u2 q0 q1 q2 :=
  ⟨((((h.x0.grownB (setCell_grown _ (B + 1) 0 _) (by omega)).grownB (setCell_grown _ (B + 2) 0 _) (by omega)).grownB (setCell_grown _ (B + 3) 0 _) (by omega)).grownB (setCell_grown _ (B + 3) 1 _) (by omega)).grownB (setCell_grown _ (B + 3) 2 _) (by omega),
   ((((h.x1.set 0 _).grownB (setCell_grown _ (B + 2) 0 _) (by omega)).grownB (setCell_grown _ (B + 3) 0 _) (by omega)).grownB (setCell_grown _ (B + 3) 1 _) (by omega)).grownB (setCell_grown _ (B + 3) 2 _) (by omega),
   ((((h.x2.grownB (setCell_grown _ (B + 1) 0 _) (by omega)).set 0 _).grownB (setCell_grown _ (B + 3) 0 _) (by omega)).grownB (setCell_grown _ (B + 3) 1 _) (by omega)).grownB (setCell_grown _ (B + 3) 2 _) (by omega),
   ((((h.x3.grownB (setCell_grown _ (B + 1) 0 _) (by omega)).grownB (setCell_grown _ (B + 2) 0 _) (by omega)).set 0 _).set 1 _).set 2 _⟩
theorem below_store {W0 W : World} {B : Nat} (h : Below B W0 W) (u1 u2 q0 q1 q2 : Value) : Below B W0 (((((W.setCell ⟨B + 1, 0, none⟩ u1).setCell ⟨B + 2, 0, none⟩ u2).setCell ⟨B + 3, 0, none⟩ q0).setCell ⟨B + 3, 1, none⟩ q1).setCell ⟨B + 3, 2, none⟩ q2) :=
  ((((h.setCell (p := ⟨B + 1, 0, none⟩) (by simp) _).setCell (p := ⟨B + 2, 0, none⟩) (by simp) _).setCell (p := ⟨B + 3, 0, none⟩) (by simp) _).setCell (p := ⟨B + 3, 1, none⟩) (by simp) _).setCell (p := ⟨B + 3, 2, none⟩) (by simp) _

set_option maxRecDepth 100000 in
set_option maxHeartbeats 4000000 in
theorem all_big (s : S) (w : World) (hs : 65536 < s.size) (hs2 : s.size ≤ 1000000) :
    Calls Try.prog 20 #[.string s] w fun e w' => e = .returned (.tuple #[.slice none 0 0, .int .i64 2, placeV s.data.toList 0]) ∧ Below w.heap.size w w' := by
  have hsi : (65536 : Int) < (s.size : Int) := by omega
  have HAT : Hid (∀ w, Calls Try.prog 51 #[.string s, .int .i64 0] w fun e w' => e = .returned (.agg #[.int .i64 0, .int .i64 (lineCol (s.data.toList.take 0)).1, .int .i64 (lineCol (s.data.toList.take 0)).2]) ∧ Below w.heap.size w w') := fun w => at_any s 0 w (Nat.zero_le _) hs2
  unfold placeV
  generalize (lineCol (s.data.toList.take 0)).1 = li at *
  generalize (lineCol (s.data.toList.take 0)).2 = co at *
  go_enter_defers Try.func20, Try.ntmps20
  go_wp2_with fail
  refine Calls.world ?_
  intro W hW
  have hV : Vars W w.heap.size s (.slice none 0 0) (.int .i64 0) (.int .i64 0) (.int .i64 0) (.int .i64 0) := by rw [hW]; exact Vars.made w s
  have hB : Below w.heap.size w W := by rw [hW]; exact ((((Below.refl _ _).alloc (Nat.le_refl _) _).alloc (by simp) _).alloc (by simp; omega) _).alloc (by simp; omega) _
  clear hW
  refine (HAT.out W).mono ?_
  rintro e w2 ⟨rfl, hb2⟩
  have hV2 := hV.below hb2
  have hB2 := hB.trans (hb2.mono hB.size)
  have a1 := hV2.x1.cell 0 _ rfl
  have a2 := hV2.x2.cell 0 _ rfl
  have a3 := hV2.x3.cell 0 _ rfl
  have a4 := hV2.x3.cell 1 _ rfl
  have a5 := hV2.x3.cell 2 _ rfl
  have f1 := hV2.x1.free 0
  have f2 := hV2.x2.free 0
  have f3 := hV2.x3.free 0
  have f4 := hV2.x3.free 1
  have f5 := hV2.x3.free 2
  have l3 := hV2.x3.lt
  have HB2 := Lib.hid hB2
  have HV2 := Lib.hid hV2
  clear hV hV2 hB hb2 hB2
  go_wp2
  have hV3 := HV2.out.store (.slice none 0 0) (.int .i64 2) (.int .i64 0) (.int .i64 li) (.int .i64 co)
  have hB3 := below_store HB2.out (.slice none 0 0) (.int .i64 2) (.int .i64 0) (.int .i64 li) (.int .i64 co)
  clear a1 a2 a3 a4 a5 f1 f2 f3 f4 f5 l3 HV2 HB2
  generalize (((((w2.setCell ⟨w.heap.size + 1, 0, none⟩ (.slice none 0 0)).setCell ⟨w.heap.size + 2, 0, none⟩ (.int .i64 2)).setCell ⟨w.heap.size + 3, 0, none⟩ (.int .i64 0)).setCell ⟨w.heap.size + 3, 1, none⟩ (.int .i64 li)).setCell ⟨w.heap.size + 3, 2, none⟩ (.int .i64 co)) = W3 at *
  have a1 := hV3.x1.cell 0 _ rfl
  have a2 := hV3.x2.cell 0 _ rfl
  have a3 := hV3.x3.cell 0 _ rfl
  have a4 := hV3.x3.cell 1 _ rfl
  have a5 := hV3.x3.cell 2 _ rfl
  refine ⟨.tuple #[.slice none 0 0, .int .i64 2, .agg #[.int .i64 0, .int .i64 li, .int .i64 co]], ?_, rfl, hB3⟩
  simp [results, Try.results20, go_sem, a1, a2, a3, a4, a5]

end Go.Proofs.Ytpchljiiappmnaa
