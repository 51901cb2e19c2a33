/- store.own of a project without lists; what Pom's closure does; sync.Once.Do in a store; the conditions stand in the theorems. -/
import Derived.Test.YtphaeegbmfpcgaaGreatDoorFB20
import Derived.WalkKit
import Derived.WalkSpells
import Derived.WalkLawsBesides
import Derived.LoopTactic
namespace Go.Proofs.YtphaeegbmfpcgaaGreatDoor
open Go Go.RowKit

/-- The post of a function that makes a slice of its own. -/
def RetOwnS {α : Type} (E : TypeId) (n : Nat) (C : α → List Value) (l : List α) (w : World) (e : Ending) (w' : World) : Prop := ∃ v, e = .returned v ∧ Owns w.heap.size E n C w' v l ∧ Below w.heap.size w w'
theorem prpC_lenS (x : Prp) : (prpC x).length = 2 := rfl
theorem depC_lenS (x : Dep × Value) : (depC x).length = 8 := rfl
theorem prpC_oneS (x : Prp) : ∀ u ∈ prpC x, u.oneCell' = true := by simp [prpC, Value.oneCell']
theorem depC_oneS {w : World} {x : Dep × Value} (h : DepOk w x) : ∀ u ∈ depC x, u.oneCell' = true := by
 obtain ⟨d, ex⟩ := x
 obtain ⟨ao, cap, rfl⟩ := h.shape
 simp [depC, Value.oneCell']
theorem info_prpS : (Tryz.prog.info? 117).map (fun i => (i.zero, i.size, i.bytes)) = some (some (.agg #[.string ⟨#[]⟩, .string ⟨#[]⟩]), 2, 32) := by kernel_rfl
theorem info_depS : (Tryz.prog.info? 171).map (fun i => (i.zero, i.size, i.bytes)) = some (some (.agg #[.string ⟨#[]⟩, .string ⟨#[]⟩, .string ⟨#[]⟩, .string ⟨#[]⟩, .string ⟨#[]⟩, .int .i64 0, .int .i64 0, .slice none 0 0]), 8, 120) := by kernel_rfl
set_option maxHeartbeats 400000 in
theorem clonePrp_anyS (l : List Prp) (v : Value) (w : World) (hs : SliceOf 2 prpC w v l) (hl : l.length * 32 ≤ 140737488355328) :
    Calls Tryz.prog 51 #[v] w (RetOwnS 117 2 prpC l w) := by
 obtain ⟨ao, cap, rfl⟩ := hs.shape
 have hq := fun (w : World) (a : Option Addr) (n c : Nat) => Lib.run_eql_slice_nil (P := Tryz.prog) w 45 117 a n c 0 0 Tryz.underlying45
 have Hl := Lib.hid hl
 clear hl
 cases ao with
 | none =>
  have h0 : l = [] := by
   obtain ⟨ao', cap', h1, h2, -, h3, -⟩ := hs
   cases h1
   exact List.eq_nil_of_length_eq_zero (by have := h3 rfl; omega)
  have hcap : cap = 0 := by
   obtain ⟨ao', cap', h1, h2, -, h3, -⟩ := hs
   cases h1; exact h3 rfl
  subst h0; subst hcap
  clear hs Hl
  simp only [List.length_nil]
  go_enter Tryz.func51, Tryz.ntmps51
  go_wp2
  go_ret
  exact ⟨_, rfl, Owns.nil, Below.refl _ _⟩
 | some ad =>
  go_enter Tryz.func51, Tryz.ntmps51
  go_wp2_with (at_builtin; refine wpList_append_slice _ rfl _ _ 45 rfl w.heap.size 117 Tryz.underlying45 info_prpS rfl (by decide) prpC_lenS (.slice (some ⟨w.heap.size, 0, none⟩) 0 0) [] rfl (Owns.empty rfl (Nat.le_refl _)) _ l rfl (hs.below ((Below.refl _ _).alloc (Nat.le_refl _) _)) (fun y _ => prpC_oneS y) (by simpa using Hl.out) (by decide) (by simp) ?_; intro v' w1 hown hgrow hloc)
  go_wp2
  go_ret
  exact ⟨_, rfl, hown, ((Below.refl _ _).alloc (Nat.le_refl _) _).grown hgrow (by simp) (by simp [Value.ownBlock])⟩
set_option maxHeartbeats 400000 in
theorem cloneDep_anyS (l : List (Dep × Value)) (v : Value) (w : World) (hs : SliceOf 8 depC w v l) (hok : ∀ p ∈ l, DepOk w p) (hl : l.length * 120 ≤ 140737488355328) :
    Calls Tryz.prog 90 #[v] w (RetOwnS 171 8 depC l w) := by
 obtain ⟨ao, cap, rfl⟩ := hs.shape
 have hq := fun (w : World) (a : Option Addr) (n c : Nat) => Lib.run_eql_slice_nil (P := Tryz.prog) w 46 171 a n c 0 0 Tryz.underlying46
 have Hl := Lib.hid hl
 clear hl
 cases ao with
 | none =>
  have h0 : l = [] := by
   obtain ⟨ao', cap', h1, h2, -, h3, -⟩ := hs
   cases h1
   exact List.eq_nil_of_length_eq_zero (by have := h3 rfl; omega)
  have hcap : cap = 0 := by
   obtain ⟨ao', cap', h1, h2, -, h3, -⟩ := hs
   cases h1; exact h3 rfl
  subst h0; subst hcap
  clear hs Hl hok
  simp only [List.length_nil]
  go_enter Tryz.func90, Tryz.ntmps90
  go_wp2
  go_ret
  exact ⟨_, rfl, Owns.nil, Below.refl _ _⟩
 | some ad =>
  go_enter Tryz.func90, Tryz.ntmps90
  go_wp2_with (at_builtin; refine wpList_append_slice _ rfl _ _ 46 rfl w.heap.size 171 Tryz.underlying46 info_depS rfl (by decide) depC_lenS (.slice (some ⟨w.heap.size, 0, none⟩) 0 0) [] rfl (Owns.empty rfl (Nat.le_refl _)) _ l rfl (hs.below ((Below.refl _ _).alloc (Nat.le_refl _) _)) (fun y hy => depC_oneS (hok y hy)) (by simpa using Hl.out) (by decide) (by simp) ?_; intro v' w1 hown hgrow hloc)
  go_wp2
  go_ret
  exact ⟨_, rfl, hown, ((Below.refl _ _).alloc (Nat.le_refl _) _).grown hgrow (by simp) (by simp [Value.ownBlock])⟩
theorem below_later {w w' w1 : World} (h : Below w.heap.size w w') (hb : Below w'.heap.size w' w1) : Below w.heap.size w w1 := h.trans (hb.mono h.size)
def owUpd (H : Nat) (a2 : Option Addr) (n2 c2 : Nat) (a3 : Option Addr) (n3 c3 : Nat) (x0 x1 x2 x3 x4 x5 x6 x15 : Value) (f0 f1 f2 f3 f4 f5 f6 _f7 f8 _f9 : Bool) (e2 : Option Addr) (g2 : Nat) (e3 : Option Addr) (g3 : Nat) : Act :=
 ⟨#[x0, x1, x2, x3, x4, x5, x6, cond f0 (.pointer (some ⟨H, 9, none⟩)) undef, cond f1 (.slice a2 n2 c2) undef, cond f2 (.slice e2 0 g2) undef, cond f3 (.pointer (some ⟨H, 10, none⟩)) undef, cond f4 (.slice a3 n3 c3) undef, cond f5 (.slice e3 0 g3) undef, cond f6 (.pointer (some ⟨H, 9, none⟩)) undef, cond f8 (.pointer (some ⟨H, 10, none⟩)) undef, x15], []⟩
inductive owJ (H : Nat) (hp : Bool) (q1 q2 q3 q4 q5 q6 q7 : S) (b1 : Option Addr) (d1 : Nat) (a2 : Option Addr) (n2 c2 : Nat) (a3 : Option Addr) (n3 c3 : Nat) (w V : World) (x0 x1 x2 x3 x4 x5 x6 x15 : Value) : Array Bool → Act → World → Prop where
 | mk (f0 f1 f2 f3 f4 f5 f6 f7 f8 f9 : Bool) (e2 : Option Addr) (g2 : Nat) (e3 : Option Addr) (g3 : Nat) (w' : World) (ch1 : Hid (f1 = true → f0 = true)) (ch2 : Hid (f2 = true → f1 = true)) (ch4 : Hid (f4 = true → f3 = true)) (ch5 : Hid (f5 = true → f4 = true ∧ f2 = true)) (ch6 : Hid (f6 = true → f0 = true ∧ f1 = true ∧ f2 = true ∧ f3 = true ∧ f4 = true)) (ch7 : Hid (f7 = true → f6 = true ∧ f2 = true ∧ f5 = true ∧ f0 = true ∧ f1 = true ∧ f3 = true ∧ f4 = true)) (ch8 : Hid (f8 = true → f0 = true ∧ f1 = true ∧ f2 = true ∧ f3 = true ∧ f4 = true ∧ f5 = true ∧ f6 = true ∧ f7 = true)) (ch9 : Hid (f9 = true → f8 = true ∧ f5 = true ∧ f7 = true ∧ f0 = true ∧ f1 = true ∧ f2 = true ∧ f3 = true ∧ f4 = true ∧ f6 = true)) (hB : (f7 = false → Below V.heap.size V w')) (rx : (f7 = false → Box w' H [.bool hp, .string q1, .string q2, .string q3, .string q4, .string q5, .string q6, .string q7, .slice b1 0 d1, .slice a2 n2 c2, .slice a3 n3 c3])) (ry : (f7 = true → f9 = false → Box w' H [.bool hp, .string q1, .string q2, .string q3, .string q4, .string q5, .string q6, .string q7, .slice b1 0 d1, .slice e2 0 g2, .slice a3 n3 c3])) (rz : (f9 = true → Box w' H [.bool hp, .string q1, .string q2, .string q3, .string q4, .string q5, .string q6, .string q7, .slice b1 0 d1, .slice e2 0 g2, .slice e3 0 g3])) (rr : Box w' (H + 1) [.bool false, .string ⟨#[]⟩, .string ⟨#[]⟩, .string ⟨#[]⟩, .string ⟨#[]⟩, .string ⟨#[]⟩, .string ⟨#[]⟩, .string ⟨#[]⟩, .slice none 0 0, .slice none 0 0, .slice none 0 0]) (bw : Below w.heap.size w w') : owJ H hp q1 q2 q3 q4 q5 q6 q7 b1 d1 a2 n2 c2 a3 n3 c3 w V x0 x1 x2 x3 x4 x5 x6 x15 #[f0, f1, f2, f3, f4, f5, f6, f7, f8, f9] (owUpd H a2 n2 c2 a3 n3 c3 x0 x1 x2 x3 x4 x5 x6 x15 f0 f1 f2 f3 f4 f5 f6 f7 f8 f9 e2 g2 e3 g3) w'
theorem owJ.at {H : Nat} {hp : Bool} {q1 q2 q3 q4 q5 q6 q7 : S} {b1 : Option Addr} {d1 : Nat} {a2 : Option Addr} {n2 c2 : Nat} {a3 : Option Addr} {n3 c3 : Nat} {w V : World} {x0 x1 x2 x3 x4 x5 x6 x15 : Value} {listed : Array Bool} {atx : Act} {w' : World} (f0 f1 f2 f3 f4 f5 f6 f7 f8 f9 : Bool) (e2 : Option Addr) (g2 : Nat) (e3 : Option Addr) (g3 : Nat) (hl : listed = #[f0, f1, f2, f3, f4, f5, f6, f7, f8, f9]) (ha : atx = owUpd H a2 n2 c2 a3 n3 c3 x0 x1 x2 x3 x4 x5 x6 x15 f0 f1 f2 f3 f4 f5 f6 f7 f8 f9 e2 g2 e3 g3) (ch1 : Hid (f1 = true → f0 = true)) (ch2 : Hid (f2 = true → f1 = true)) (ch4 : Hid (f4 = true → f3 = true)) (ch5 : Hid (f5 = true → f4 = true ∧ f2 = true)) (ch6 : Hid (f6 = true → f0 = true ∧ f1 = true ∧ f2 = true ∧ f3 = true ∧ f4 = true)) (ch7 : Hid (f7 = true → f6 = true ∧ f2 = true ∧ f5 = true ∧ f0 = true ∧ f1 = true ∧ f3 = true ∧ f4 = true)) (ch8 : Hid (f8 = true → f0 = true ∧ f1 = true ∧ f2 = true ∧ f3 = true ∧ f4 = true ∧ f5 = true ∧ f6 = true ∧ f7 = true)) (ch9 : Hid (f9 = true → f8 = true ∧ f5 = true ∧ f7 = true ∧ f0 = true ∧ f1 = true ∧ f2 = true ∧ f3 = true ∧ f4 = true ∧ f6 = true)) (hB : (f7 = false → Below V.heap.size V w')) (rx : (f7 = false → Box w' H [.bool hp, .string q1, .string q2, .string q3, .string q4, .string q5, .string q6, .string q7, .slice b1 0 d1, .slice a2 n2 c2, .slice a3 n3 c3])) (ry : (f7 = true → f9 = false → Box w' H [.bool hp, .string q1, .string q2, .string q3, .string q4, .string q5, .string q6, .string q7, .slice b1 0 d1, .slice e2 0 g2, .slice a3 n3 c3])) (rz : (f9 = true → Box w' H [.bool hp, .string q1, .string q2, .string q3, .string q4, .string q5, .string q6, .string q7, .slice b1 0 d1, .slice e2 0 g2, .slice e3 0 g3])) (rr : Box w' (H + 1) [.bool false, .string ⟨#[]⟩, .string ⟨#[]⟩, .string ⟨#[]⟩, .string ⟨#[]⟩, .string ⟨#[]⟩, .string ⟨#[]⟩, .string ⟨#[]⟩, .slice none 0 0, .slice none 0 0, .slice none 0 0]) (bw : Below w.heap.size w w') : owJ H hp q1 q2 q3 q4 q5 q6 q7 b1 d1 a2 n2 c2 a3 n3 c3 w V x0 x1 x2 x3 x4 x5 x6 x15 listed atx w' := by
 subst hl ha
 exact .mk f0 f1 f2 f3 f4 f5 f6 f7 f8 f9 e2 g2 e3 g3 w' ch1 ch2 ch4 ch5 ch6 ch7 ch8 ch9 hB rx ry rz rr bw
def Made0 (w : World) (e : Ending) (w' : World) : Prop := ∃ a c, e = .returned (.slice a 0 c) ∧ Below w.heap.size w w'
set_option maxHeartbeats 1600000 in
theorem ownDeps0 (v : Value) (w : World) (hs : SliceOf 8 depC w v []) : Calls Tryz.prog 52 #[v] w (Made0 w) := by
 have HC := Lib.hid (cloneDep_anyS [] v w hs (by simp) (by simp))
 clear hs
 go_enter Tryz.func52, Tryz.ntmps52
 go_wp2_with fail
 refine HC.out.mono ?_
 rintro e w1 ⟨u, rfl, ho, hb⟩
 obtain ⟨a, c, rfl⟩ := ho.shape
 simp only [List.length_nil]
 have HB := Lib.hid hb
 clear HC ho hb
 go_wp2
 go_loopw [9] (fun i wr => i = .int .i64 0 ∧ Below w.heap.size w wr) (fun _ _ => 0)
 case atStart => exact ⟨rfl, HB.out⟩
 case round =>
  obtain ⟨rfl, hb⟩ := hrel
  go_wp2
  go_ret
  exact ⟨_, _, rfl, hb⟩
def Own0 (hp : Bool) (q1 q2 q3 q4 q5 q6 q7 : S) (w : World) (e : Ending) (w' : World) : Prop := ∃ a1 c1 a2 c2 a3 c3, e = .returned (.agg #[.bool hp, .string q1, .string q2, .string q3, .string q4, .string q5, .string q6, .string q7, .slice a1 0 c1, .slice a2 0 c2, .slice a3 0 c3]) ∧ Below w.heap.size w w'
set_option maxRecDepth 100000 in
set_option maxHeartbeats 4000000 in
theorem own0 (hp : Bool) (q1 q2 q3 q4 q5 q6 q7 : S) (a1 a2 a3 : Option Addr) (n1 n2 n3 c1 c2 c3 : Nat) (w : World) (h1 : SliceOf 2 prpC w (.slice a1 n1 c1) []) (h2 : SliceOf 8 depC w (.slice a2 n2 c2) []) (h3 : SliceOf 8 depC w (.slice a3 n3 c3) []) :
    Calls Tryz.prog 33 #[.agg #[.bool hp, .string q1, .string q2, .string q3, .string q4, .string q5, .string q6, .string q7, .slice a1 n1 c1, .slice a2 n2 c2, .slice a3 n3 c3]] w (Own0 hp q1 q2 q3 q4 q5 q6 q7 w) := by
 have H1 := Lib.hid h1
 have H2 := Lib.hid h2
 have H3 := Lib.hid h3
 clear h1 h2 h3
 go_enter Tryz.func33, Tryz.ntmps33
 go_upto_region 1 with fail
 refine wp_world ?_
 intro W hW
 have x1 : Box W w.heap.size [.bool hp, .string q1, .string q2, .string q3, .string q4, .string q5, .string q6, .string q7, .slice a1 n1 c1, .slice a2 n2 c2, .slice a3 n3 c3] := by rw [hW]; exact (Box.new w [.bool hp, .string q1, .string q2, .string q3, .string q4, .string q5, .string q6, .string q7, .slice a1 n1 c1, .slice a2 n2 c2, .slice a3 n3 c3] _ _ rfl).alloc _
 have x2 : Box W (w.heap.size + 1) [.bool false, .string ⟨#[]⟩, .string ⟨#[]⟩, .string ⟨#[]⟩, .string ⟨#[]⟩, .string ⟨#[]⟩, .string ⟨#[]⟩, .string ⟨#[]⟩, .slice none 0 0, .slice none 0 0, .slice none 0 0] := by rw [hW]; exact Box.new _ [.bool false, .string ⟨#[]⟩, .string ⟨#[]⟩, .string ⟨#[]⟩, .string ⟨#[]⟩, .string ⟨#[]⟩, .string ⟨#[]⟩, .string ⟨#[]⟩, .slice none 0 0, .slice none 0 0, .slice none 0 0] _ _ (by simp)
 have hb : Below w.heap.size w W := by rw [hW]; exact ((Below.refl _ w).alloc (Nat.le_refl _) _).alloc (by simp) _
 clear hW
 have HX := Lib.hid x1
 have HY := Lib.hid x2
 have HB := Lib.hid hb
 have HC := Lib.hid (clonePrp_anyS [] _ W (H1.out.below hb) (by simp))
 have k8 := x1.cell 8 _ rfl
 have kl := x1.lt
 clear x1 x2 hb H1
 go_wp2_with fail
 refine HC.out.mono ?_
 rintro e w1 ⟨u, rfl, ho, hb⟩
 obtain ⟨b1, d1, hu⟩ := ho.shape
 obtain rfl : u = .slice b1 0 d1 := hu
 have HX1 := Lib.hid (HX.out.below hb HX.out.lt)
 have HY1 := Lib.hid (HY.out.below hb HY.out.lt)
 have HB1 := Lib.hid (HB.out.trans (hb.mono HB.out.size))
 clear HC ho hb HX HY HB k8 kl
 have k8 := HX1.out.cell 8 _ rfl
 have f8 := HX1.out.free 8
 have kl := HX1.out.lt
 go_upto_region 2 with fail
 refine wp_world ?_
 intro W2 hW2
 have x2 : Box W2 w.heap.size [.bool hp, .string q1, .string q2, .string q3, .string q4, .string q5, .string q6, .string q7, .slice b1 0 d1, .slice a2 n2 c2, .slice a3 n3 c3] := by rw [hW2]; exact HX1.out.setOne rfl (by simp)
 have hb2 : Below w.heap.size w W2 := by rw [hW2]; exact HB1.out.setCell (by simp) _
 have y2 : Box W2 (w.heap.size + 1) [.bool false, .string ⟨#[]⟩, .string ⟨#[]⟩, .string ⟨#[]⟩, .string ⟨#[]⟩, .string ⟨#[]⟩, .string ⟨#[]⟩, .string ⟨#[]⟩, .slice none 0 0, .slice none 0 0, .slice none 0 0] := by rw [hW2]; exact HY1.out.grown (setCell_grown _ _ _ _) (by simp)
 clear hW2 k8 f8 kl
 have HX2 := Lib.hid x2
 have HB2 := Lib.hid hb2
 have HY2 := Lib.hid y2
 clear x2 hb2 y2 HX1 HB1 HY1
 obtain ⟨H, hH⟩ : ∃ H, H = w.heap.size := ⟨_, rfl⟩
 have HHE : Hid (w.heap.size = H) := hH.symm
 have HX2 : Hid (Box W2 H [.bool hp, .string q1, .string q2, .string q3, .string q4, .string q5, .string q6, .string q7, .slice b1 0 d1, .slice a2 n2 c2, .slice a3 n3 c3]) := by rw [hH]; exact HX2.out
 rw [← hH]
 have HY2 : Hid (Box W2 (H + 1) [.bool false, .string ⟨#[]⟩, .string ⟨#[]⟩, .string ⟨#[]⟩, .string ⟨#[]⟩, .string ⟨#[]⟩, .string ⟨#[]⟩, .string ⟨#[]⟩, .slice none 0 0, .slice none 0 0, .slice none 0 0]) := by rw [hH]; exact HY2.out
 clear hH
 refine wp_region_flags0 (owJ H hp q1 q2 q3 q4 q5 q6 q7 b1 d1 a2 n2 c2 a3 n3 c3 w W2 _ _ _ _ _ _ _ _) (by kernel_rfl) 10 rfl (by kernel_rfl) (owJ.at false false false false false false false false false false (none) (0) (none) (0) rfl (by unfold owUpd; rfl) ?i0 ?i1 ?i2 ?i3 ?i4 ?i5 ?i6 ?i7 ?i8 ?i9 ?i10 ?i11 ?i12 ?i13) ?fin ?step
 case i0 => exact Lib.hid (by simp)
 case i1 => exact Lib.hid (by simp)
 case i2 => exact Lib.hid (by simp)
 case i3 => exact Lib.hid (by simp)
 case i4 => exact Lib.hid (by simp)
 case i5 => exact Lib.hid (by simp)
 case i6 => exact Lib.hid (by simp)
 case i7 => exact Lib.hid (by simp)
 case i8 => exact fun h0 => belowN (Below.refl _ _) 1
 case i9 => exact fun _ => HX2.out.drewN 1
 case i10 => exact by simp
 case i11 => exact by simp
 case i12 => exact HY2.out.drewN 1
 case i13 => exact belowN HB2.out 1
 case fin =>
  intro a' w' hJ
  generalize hl : Array.replicate 10 true = Lz at hJ
  cases hJ with
  | mk f0 f1 f2 f3 f4 f5 f6 f7 f8 f9 e2 g2 e3 g3 _ ch1 ch2 ch4 ch5 ch6 ch7 ch8 ch9 hB rx ry rz rr bw =>
   have hl' : [true, true, true, true, true, true, true, true, true, true] = [f0, f1, f2, f3, f4, f5, f6, f7, f8, f9] := congrArg Array.toList hl
   simp only [List.cons.injEq, and_true] at hl'
   obtain ⟨rfl, rfl, rfl, rfl, rfl, rfl, rfl, rfl, rfl, rfl⟩ := hl'
   clear hl
   unfold owUpd
   simp only [cond_true]
   have HZ := Lib.hid (rz rfl)
   have HRR := Lib.hid rr
   have HBW := Lib.hid bw
   clear ch1 ch2 ch4 ch5 ch6 ch7 ch8 ch9 hB rx ry rz rr bw
   obtain ⟨z0, z1, z2, z3, z4, z5, z6, z7, z8, z9, z10⟩ := bxc11 HZ.out
   have zl := HZ.out.lt
   go_wp2_with ((with_reducible show wpList _ _ _ (Oper.mk none (Op.store 48 (.tmp 2) (.tmp 15)) _ _ _ _ :: _) _ _); refine wpList_store_box rfl 48 (.tmp 2) (.tmp 15) rfl (H + 1) [.bool false, .string ⟨#[]⟩, .string ⟨#[]⟩, .string ⟨#[]⟩, .string ⟨#[]⟩, .string ⟨#[]⟩, .string ⟨#[]⟩, .string ⟨#[]⟩, .slice none 0 0, .slice none 0 0, .slice none 0 0] [.bool hp, .string q1, .string q2, .string q3, .string q4, .string q5, .string q6, .string q7, .slice b1 0 d1, .slice e2 0 g2, .slice e3 0 g3] rfl rfl HRR.out rfl size_pomS (by simp [Value.oneCell']) ?_; intro W5 x5 g5)
   refine bodyPost_ret (results_cell_box rfl _ _ (H + 1) [.bool hp, .string q1, .string q2, .string q3, .string q4, .string q5, .string q6, .string q7, .slice b1 0 d1, .slice e2 0 g2, .slice e3 0 g3] rfl x5 Tryz.underlying48 rfl size_pomS) rfl ?_
   exact ⟨_, _, _, _, _, _, rfl, HBW.out.trans (below_row g5 (by rw [HHE.out]; omega) HBW.out.size)⟩
 case step =>
  intro listed a' w' hJ i hi
  cases hJ with
  | mk f0 f1 f2 f3 f4 f5 f6 f7 f8 f9 e2 g2 e3 g3 _ ch1 ch2 ch4 ch5 ch6 ch7 ch8 ch9 hB rx ry rz rr bw =>
   rw [mem_ready] at hi
   obtain ⟨hu, o, ho, ha⟩ := hi
   have hi8 : i < 10 := (Array.getElem?_eq_some_iff.1 ho).1
   rcases (by omega : i = 0 ∨ i = 1 ∨ i = 2 ∨ i = 3 ∨ i = 4 ∨ i = 5 ∨ i = 6 ∨ i = 7 ∨ i = 8 ∨ i = 9) with rfl | rfl | rfl | rfl | rfl | rfl | rfl | rfl | rfl | rfl
   · have ho' := ho
     simp at hu ho
     subst hu ho
     clear ha
     have e1 : f1 = false := Bool.eq_false_iff.2 fun h => Bool.false_ne_true ((ch1.out h))
     have e2 : f2 = false := Bool.eq_false_iff.2 fun h => Bool.false_ne_true ((ch1.out (ch2.out h)))
     have e5 : f5 = false := Bool.eq_false_iff.2 fun h => Bool.false_ne_true ((ch1.out (ch2.out (ch5.out h).2)))
     have e6 : f6 = false := Bool.eq_false_iff.2 fun h => Bool.false_ne_true ((ch6.out h).1)
     have e7 : f7 = false := Bool.eq_false_iff.2 fun h => Bool.false_ne_true ((ch6.out (ch7.out h).1).1)
     have e8 : f8 = false := Bool.eq_false_iff.2 fun h => Bool.false_ne_true ((ch8.out h).1)
     have e9 : f9 = false := Bool.eq_false_iff.2 fun h => Bool.false_ne_true ((ch8.out (ch9.out h).1).1)
     subst e1 e2 e5 e6 e7 e8 e9
     refine .inl ?_
     unfold owUpd Oper.wp
     go_simp
     exact owJ.at true false false f3 f4 false false false false false (e2) (g2) (e3) (g3) rfl rfl (Lib.hid (by simp)) (Lib.hid (by simp)) (ch4) (Lib.hid (by simp)) (Lib.hid (by simp)) (Lib.hid (by simp)) (Lib.hid (by simp)) (Lib.hid (by simp)) (hB) (rx) (by simp) (by simp) (rr) (bw)
   · have ho' := ho
     simp at hu ho
     subst hu ho
     simp [Region.binds] at ha
     obtain rfl : f0 = true := by simp only [ha]
     clear ha
     have e2 : f2 = false := Bool.eq_false_iff.2 fun h => Bool.false_ne_true ((ch2.out h))
     have e5 : f5 = false := Bool.eq_false_iff.2 fun h => Bool.false_ne_true ((ch2.out (ch5.out h).2))
     have e6 : f6 = false := Bool.eq_false_iff.2 fun h => Bool.false_ne_true ((ch6.out h).2.1)
     have e7 : f7 = false := Bool.eq_false_iff.2 fun h => Bool.false_ne_true ((ch6.out (ch7.out h).1).2.1)
     have e8 : f8 = false := Bool.eq_false_iff.2 fun h => Bool.false_ne_true ((ch8.out h).2.1)
     have e9 : f9 = false := Bool.eq_false_iff.2 fun h => Bool.false_ne_true ((ch8.out (ch9.out h).1).2.1)
     subst e2 e5 e6 e7 e8 e9
     have k9 := (rx rfl).cell 9 _ rfl
     have kl := (rx rfl).lt
     refine .inl ?_
     unfold owUpd Oper.wp
     go_simp
     exact owJ.at true true false f3 f4 false false false false false (e2) (g2) (e3) (g3) rfl rfl (Lib.hid (by simp)) (Lib.hid (by simp)) (ch4) (Lib.hid (by simp)) (Lib.hid (by simp)) (Lib.hid (by simp)) (Lib.hid (by simp)) (Lib.hid (by simp)) (hB) (rx) (by simp) (by simp) (rr) (bw)
   · have ho' := ho
     simp at hu ho
     subst hu ho
     simp [Region.binds] at ha
     obtain rfl : f1 = true := by simp only [ha]
     clear ha
     obtain rfl : f0 = true := (ch1.out rfl)
     have e5 : f5 = false := Bool.eq_false_iff.2 fun h => Bool.false_ne_true ((ch5.out h).2)
     have e6 : f6 = false := Bool.eq_false_iff.2 fun h => Bool.false_ne_true ((ch6.out h).2.2.1)
     have e7 : f7 = false := Bool.eq_false_iff.2 fun h => Bool.false_ne_true ((ch6.out (ch7.out h).1).2.2.1)
     have e8 : f8 = false := Bool.eq_false_iff.2 fun h => Bool.false_ne_true ((ch8.out h).2.2.1)
     have e9 : f9 = false := Bool.eq_false_iff.2 fun h => Bool.false_ne_true ((ch8.out (ch9.out h).1).2.2.1)
     subst e5 e6 e7 e8 e9
     have hS := (hB rfl).size
     refine .inl ?_
     unfold owUpd Oper.wp
     go_simp
     refine (ownDeps0 (.slice a2 n2 c2) w' (H2.out.below bw)).mono ?_
     intro e w1 hO
     obtain ⟨a, c, rfl, hb⟩ := hO
     exact owJ.at true true true f3 f4 false false false false false (a) (c) (e3) (g3) rfl rfl (Lib.hid (by simp)) (Lib.hid (by simp)) (ch4) (Lib.hid (by simp)) (Lib.hid (by simp)) (Lib.hid (by simp)) (Lib.hid (by simp)) (Lib.hid (by simp)) (fun h0 => (hB h0).trans (hb.mono hS)) (fun h0 => BoxS.later (rx h0) hb) (by simp) (by simp) (BoxS.later rr hb) (below_later bw hb)
   · have ho' := ho
     simp at hu ho
     subst hu ho
     clear ha
     have e4 : f4 = false := Bool.eq_false_iff.2 fun h => Bool.false_ne_true ((ch4.out h))
     have e5 : f5 = false := Bool.eq_false_iff.2 fun h => Bool.false_ne_true ((ch4.out (ch5.out h).1))
     have e6 : f6 = false := Bool.eq_false_iff.2 fun h => Bool.false_ne_true ((ch6.out h).2.2.2.1)
     have e7 : f7 = false := Bool.eq_false_iff.2 fun h => Bool.false_ne_true ((ch6.out (ch7.out h).1).2.2.2.1)
     have e8 : f8 = false := Bool.eq_false_iff.2 fun h => Bool.false_ne_true ((ch8.out h).2.2.2.1)
     have e9 : f9 = false := Bool.eq_false_iff.2 fun h => Bool.false_ne_true ((ch8.out (ch9.out h).1).2.2.2.1)
     subst e4 e5 e6 e7 e8 e9
     refine .inl ?_
     unfold owUpd Oper.wp
     go_simp
     exact owJ.at f0 f1 f2 true false false false false false false (e2) (g2) (e3) (g3) rfl rfl (ch1) (ch2) (Lib.hid (by simp)) (Lib.hid (by simp)) (Lib.hid (by simp)) (Lib.hid (by simp)) (Lib.hid (by simp)) (Lib.hid (by simp)) (hB) (rx) (by simp) (by simp) (rr) (bw)
   · have ho' := ho
     simp at hu ho
     subst hu ho
     simp [Region.binds] at ha
     obtain rfl : f3 = true := by simp only [ha]
     clear ha
     have e5 : f5 = false := Bool.eq_false_iff.2 fun h => Bool.false_ne_true ((ch5.out h).1)
     have e6 : f6 = false := Bool.eq_false_iff.2 fun h => Bool.false_ne_true ((ch6.out h).2.2.2.2)
     have e7 : f7 = false := Bool.eq_false_iff.2 fun h => Bool.false_ne_true ((ch6.out (ch7.out h).1).2.2.2.2)
     have e8 : f8 = false := Bool.eq_false_iff.2 fun h => Bool.false_ne_true ((ch8.out h).2.2.2.2.1)
     have e9 : f9 = false := Bool.eq_false_iff.2 fun h => Bool.false_ne_true ((ch8.out (ch9.out h).1).2.2.2.2.1)
     subst e5 e6 e7 e8 e9
     have k9 := (rx rfl).cell 10 _ rfl
     have kl := (rx rfl).lt
     refine .inl ?_
     unfold owUpd Oper.wp
     go_simp
     exact owJ.at f0 f1 f2 true true false false false false false (e2) (g2) (e3) (g3) rfl rfl (ch1) (ch2) (Lib.hid (by simp)) (Lib.hid (by simp)) (Lib.hid (by simp)) (Lib.hid (by simp)) (Lib.hid (by simp)) (Lib.hid (by simp)) (hB) (rx) (by simp) (by simp) (rr) (bw)
   · have ho' := ho
     simp at hu ho
     subst hu ho
     simp [Region.binds] at ha
     obtain rfl : f4 = true := by simp only [ha]
     obtain rfl : f2 = true := by simp only [ha]
     clear ha
     obtain rfl : f3 = true := (ch4.out rfl)
     obtain rfl : f1 = true := (ch2.out rfl)
     obtain rfl : f0 = true := (ch1.out (ch2.out rfl))
     have e7 : f7 = false := Bool.eq_false_iff.2 fun h => Bool.false_ne_true ((ch7.out h).2.2.1)
     have e8 : f8 = false := Bool.eq_false_iff.2 fun h => Bool.false_ne_true ((ch8.out h).2.2.2.2.2.1)
     have e9 : f9 = false := Bool.eq_false_iff.2 fun h => Bool.false_ne_true ((ch8.out (ch9.out h).1).2.2.2.2.2.1)
     subst e7 e8 e9
     have hS := (hB rfl).size
     refine .inl ?_
     unfold owUpd Oper.wp
     go_simp
     refine (ownDeps0 (.slice a3 n3 c3) w' (H3.out.below bw)).mono ?_
     intro e w1 hO
     obtain ⟨a, c, rfl, hb⟩ := hO
     exact owJ.at true true true true true true f6 false false false (e2) (g2) (a) (c) rfl rfl (Lib.hid (by simp)) (Lib.hid (by simp)) (Lib.hid (by simp)) (Lib.hid (by simp)) (ch6) (Lib.hid (by simp)) (Lib.hid (by simp)) (Lib.hid (by simp)) (fun h0 => (hB h0).trans (hb.mono hS)) (fun h0 => BoxS.later (rx h0) hb) (by simp) (by simp) (BoxS.later rr hb) (below_later bw hb)
   · have ho' := ho
     simp at hu ho
     subst hu ho
     simp [Region.binds] at ha
     obtain rfl : f0 = true := by simp only [ha]
     obtain rfl : f1 = true := by simp only [ha]
     obtain rfl : f2 = true := by simp only [ha]
     obtain rfl : f3 = true := by simp only [ha]
     obtain rfl : f4 = true := by simp only [ha]
     clear ha
     have e7 : f7 = false := Bool.eq_false_iff.2 fun h => Bool.false_ne_true ((ch7.out h).1)
     have e8 : f8 = false := Bool.eq_false_iff.2 fun h => Bool.false_ne_true ((ch8.out h).2.2.2.2.2.2.1)
     have e9 : f9 = false := Bool.eq_false_iff.2 fun h => Bool.false_ne_true ((ch8.out (ch9.out h).1).2.2.2.2.2.2.1)
     subst e7 e8 e9
     refine .inl ?_
     unfold owUpd Oper.wp
     go_simp
     exact owJ.at true true true true true f5 true false false false (e2) (g2) (e3) (g3) rfl rfl (Lib.hid (by simp)) (Lib.hid (by simp)) (Lib.hid (by simp)) (ch5) (Lib.hid (by simp)) (Lib.hid (by simp)) (Lib.hid (by simp)) (Lib.hid (by simp)) (hB) (rx) (by simp) (by simp) (rr) (bw)
   · have ho' := ho
     simp at hu ho
     subst hu ho
     simp [Region.binds] at ha
     obtain rfl : f6 = true := by simp only [ha]
     obtain rfl : f2 = true := by simp only [ha]
     obtain rfl : f5 = true := by simp only [ha]
     obtain rfl : f0 = true := by simp only [ha]
     obtain rfl : f1 = true := by simp only [ha]
     obtain rfl : f3 = true := by simp only [ha]
     obtain rfl : f4 = true := by simp only [ha]
     clear ha
     have e8 : f8 = false := Bool.eq_false_iff.2 fun h => Bool.false_ne_true ((ch8.out h).2.2.2.2.2.2.2)
     have e9 : f9 = false := Bool.eq_false_iff.2 fun h => Bool.false_ne_true ((ch8.out (ch9.out h).1).2.2.2.2.2.2.2)
     subst e8 e9
     have k9 := (rx rfl).cell 9 _ rfl
     have f9 := (rx rfl).free 9
     have kl := (rx rfl).lt
     have x3 := (rx rfl).setOne (o := 9) (u := .slice e2 0 g2) rfl (by simp)
     refine .inl ?_
     unfold owUpd Oper.wp
     go_simp
     exact owJ.at true true true true true true true true false false (e2) (g2) (e3) (g3) rfl rfl (Lib.hid (by simp)) (Lib.hid (by simp)) (Lib.hid (by simp)) (Lib.hid (by simp)) (Lib.hid (by simp)) (Lib.hid (by simp)) (Lib.hid (by simp)) (Lib.hid (by simp)) (by simp) (by simp) (fun _ _ => x3) (by simp) (rr.grown (setCell_grown _ _ _ _) (by simp)) (bw.setCell (by exact Nat.le_of_eq HHE.out) _)
   · have ho' := ho
     simp at hu ho
     subst hu ho
     simp [Region.binds] at ha
     obtain rfl : f0 = true := by simp only [ha]
     obtain rfl : f1 = true := by simp only [ha]
     obtain rfl : f2 = true := by simp only [ha]
     obtain rfl : f3 = true := by simp only [ha]
     obtain rfl : f4 = true := by simp only [ha]
     obtain rfl : f5 = true := by simp only [ha]
     obtain rfl : f6 = true := by simp only [ha]
     obtain rfl : f7 = true := by simp only [ha]
     clear ha
     have e9 : f9 = false := Bool.eq_false_iff.2 fun h => Bool.false_ne_true ((ch9.out h).1)
     subst e9
     refine .inl ?_
     unfold owUpd Oper.wp
     go_simp
     exact owJ.at true true true true true true true true true false (e2) (g2) (e3) (g3) rfl rfl (Lib.hid (by simp)) (Lib.hid (by simp)) (Lib.hid (by simp)) (Lib.hid (by simp)) (Lib.hid (by simp)) (Lib.hid (by simp)) (Lib.hid (by simp)) (Lib.hid (by simp)) (by simp) (by simp) (ry) (by simp) (rr) (bw)
   · have ho' := ho
     simp at hu ho
     subst hu ho
     simp [Region.binds] at ha
     obtain rfl : f8 = true := by simp only [ha]
     obtain rfl : f5 = true := by simp only [ha]
     obtain rfl : f7 = true := by simp only [ha]
     obtain rfl : f0 = true := by simp only [ha]
     obtain rfl : f1 = true := by simp only [ha]
     obtain rfl : f2 = true := by simp only [ha]
     obtain rfl : f3 = true := by simp only [ha]
     obtain rfl : f4 = true := by simp only [ha]
     obtain rfl : f6 = true := by simp only [ha]
     clear ha
     have k9 := (ry rfl rfl).cell 10 _ rfl
     have f9 := (ry rfl rfl).free 10
     have kl := (ry rfl rfl).lt
     have x3 := (ry rfl rfl).setOne (o := 10) (u := .slice e3 0 g3) rfl (by simp)
     refine .inl ?_
     unfold owUpd Oper.wp
     go_simp
     exact owJ.at true true true true true true true true true true (e2) (g2) (e3) (g3) rfl rfl (Lib.hid (by simp)) (Lib.hid (by simp)) (Lib.hid (by simp)) (Lib.hid (by simp)) (Lib.hid (by simp)) (Lib.hid (by simp)) (Lib.hid (by simp)) (Lib.hid (by simp)) (by simp) (by simp) (by simp) (fun _ => x3) (rr.grown (setCell_grown _ _ _ _) (by simp)) (bw.setCell (by exact Nat.le_of_eq HHE.out) _)

end Go.Proofs.YtphaeegbmfpcgaaGreatDoor

/- What Pom's closure does; sync.Once.Do of a project that was not read yet; the conditions stand in the theorems. -/

namespace Go.Proofs.YtphaeegbmfpcgaaGreatDoor
open Go Go.RowKit

def Pom1Out (b eb me mv : Nat) (r a : Int) (s : S) (p : Pom) (w w' : World) : Prop := Only (fun k => k = b ∨ k = eb) w w' ∧ Box w' b [.map (some me), .map (some mv), .int .i64 (r + 1), .int .i64 a] ∧
 ∃ pv mv' dv, Box w' eb ([.string s, .int .u32 0, .int .i32 1, .int .u32 0] ++ pomC p pv mv' dv ++ [.int .i64 0, .string ⟨#[]⟩, .string ⟨#[]⟩, .string ⟨#[]⟩, .int .i64 0, .int .i64 0, .int .i64 0, .string ⟨#[]⟩]) ∧ PomOwn w.heap.size w' p pv mv' dv
set_option maxRecDepth 100000 in
set_option maxHeartbeats 4000000 in
theorem pom1_any (b eb vs ve vg me mv : Nat) (r a : Int) (s : S) (g : Gav) (t : Tr) (q : Bs) (m : Int) (w : World) (OLD : List Value) (hol : OLD.length = 11) (h1 : Box w vs [.pointer (some ⟨b, 0, none⟩)]) (h2 : Box w ve [.pointer (some ⟨eb, 0, none⟩)]) (h3 : Box w vg [.string g.group, .string g.artifact, .string g.version]) (h4 : Box w b [.map (some me), .map (some mv), .int .i64 r, .int .i64 a])
    (h5 : Box w eb ([.string s, .int .u32 0, .int .i32 1, .int .u32 0] ++ OLD ++ [.int .i64 0, .string ⟨#[]⟩, .string ⟨#[]⟩, .string ⟨#[]⟩, .int .i64 0, .int .i64 0, .int .i64 0, .string ⟨#[]⟩])) (n1 : ve ≠ b) (n2 : vg ≠ b) (n3 : eb ≠ b) (n0 : 0 ≠ b) (hr0 : 0 ≤ r) (hr1 : r < 4611686018427387904) (hs : s.size ≤ 65536) (hbd : buildR s.data.toList = .ok t q) (ht : Mild t) (hr : readE t = none) (hm : w.cell? ⟨0, 0, none⟩ = some (.int .i64 m)) :
    Calls Tryz.prog 31 #[.pointer (some ⟨vs, 0, none⟩), .pointer (some ⟨ve, 0, none⟩), .pointer (some ⟨vg, 0, none⟩)] w fun e w' => e = .returned (.tuple #[]) ∧ Pom1Out b eb me mv r a s (readV t) w w' := by
 have hw : IntKind.i64.wrap (r + 1) = r + 1 := IntWalk.i64_in _ (by omega)
 have x1 := h1.cell 0 _ rfl
 have xl := h1.lt
 have b2 := h4.cell 2 _ rfl
 have b0 := h4.cell 0 _ rfl
 have bl := h4.lt
 have HA := Lib.hid (add_any ⟨b, 2, none⟩ r 1 (r + 1) w b2 (h4.free 2) hw)
 have hg : w.grownBy (w.setCell ⟨b, 2, none⟩ (.int .i64 (r + 1))) (some b) := setCell_grown _ _ _ _
 have hb : Box (w.setCell ⟨b, 2, none⟩ (.int .i64 (r + 1))) b [.map (some me), .map (some mv), .int .i64 (r + 1), .int .i64 a] := h4.setOne rfl (by simp)
 have HB := Lib.hid hb
 have HG := Lib.hid hg
 have HE := Lib.hid (h5.grown hg (by simp [n3]))
 have HV := Lib.hid (h2.grown hg (by simp [n1]))
 have HX := Lib.hid (h3.grown hg (by simp [n2]))
 have HM : Hid ((w.setCell ⟨b, 2, none⟩ (.int .i64 (r + 1))).cell? ⟨0, 0, none⟩ = some (.int .i64 m)) := (World.cell?_setCell_other _ _ _ _ (fun e => by cases e)).trans hm
 have HC : Hid (s.size ≤ 65536 ∧ buildR s.data.toList = .ok t q ∧ Mild t ∧ readE t = none ∧ OLD.length = 11) := ⟨hs, hbd, ht, hr, hol⟩
 have HLE := Lib.hid h5.lt
 have HNE := Lib.hid n3
 clear h1 h2 h3 h4 h5 hg hb hs hbd ht hr hm hw hol n1 n2 n0 n3
 generalize w.setCell ⟨b, 2, none⟩ (.int .i64 (r + 1)) = W1 at *
 go_enter Tryz.func31, Tryz.ntmps31
 go_wp2_with fail
 refine HA.out.mono ?_
 rintro e w1 ⟨rfl, rfl⟩
 clear x1 xl b2 b0 bl HA
 have v0 := HV.out.cell 0 _ rfl
 have vl := HV.out.lt
 obtain ⟨g0, g1, g2⟩ := bxc3 HX.out
 have gl := HX.out.lt
 go_wp2_with fail
 refine (eread_any eb s _ _ _ g t q m _ OLD HC.out.2.2.2.2 HE.out HC.out.1 HC.out.2.1 HC.out.2.2.1 HC.out.2.2.2.1 HM.out).mono ?_
 rintro e w2 ⟨rfl, hg2, pv, mv', dv, hx, ho⟩
 have HR : Hid (Pom1Out b eb me mv r a s (readV t) w w2) := by
  refine ⟨(Only.grown (F := fun k => k = b ∨ k = eb) HG.out (by rintro k ⟨⟩; exact .inl rfl)).trans (Only.grown (F := fun k => k = b ∨ k = eb) hg2 (by rintro k ⟨⟩; exact .inr rfl)) (fun _ _ => id), HB.out.grown hg2 (by simp [Ne.symm HNE.out]), pv, mv', dv, hx, ho.base_mono HG.out.size⟩
 clear hg2 hx ho v0 vl g0 g1 g2 gl
 go_wp2
 go_end0
 exact ⟨rfl, HR.out⟩
set_option maxHeartbeats 1600000 in
theorem do_fresh {F : Nat → Prop} {w : World} {b me mv : Nat} {L : List (MEnt Gav)} {cl : Nat} {V : List (MEnt Id)} {cv : Nat} {es : List (SEnt × Nat)} {r a : Int} {i eb vs ve vg : Nat} {g : Gav} {s : S} {t : Tr} {q : Bs} {m : Int} (h : StoreIn F w b me mv L cl V cv es r a) (hi : es[i]? = some (freshE g s, eb))
    (h1 : Box w vs [.pointer (some ⟨b, 0, none⟩)]) (h2 : Box w ve [.pointer (some ⟨eb, 0, none⟩)]) (h3 : Box w vg [.string g.group, .string g.artifact, .string g.version]) (n1 : ¬ F vs) (n2 : ¬ F ve) (n3 : ¬ F vg) (n0 : ¬ F 0) (hr0 : 0 ≤ r) (hr1 : r < 4611686018427387904)
    (hs : s.size ≤ 65536) (hbd : buildR s.data.toList = .ok t q) (ht : Mild t) (hr : readE t = none) (hm : w.cell? ⟨0, 0, none⟩ = some (.int .i64 m)) :
    Calls Tryz.prog 30 #[.pointer (some ⟨eb, 1, none⟩), .func (.func 31) #[] #[.pointer (some ⟨vs, 0, none⟩), .pointer (some ⟨ve, 0, none⟩), .pointer (some ⟨vg, 0, none⟩)]] w fun e w' => e = .returned (.tuple #[]) ∧
     StoreIn F w' b me mv L cl V cv (es.set i (⟨g, s, true, readV t, probZ⟩, eb)) (r + 1) a ∧ Only (fun k => k = b ∨ k = eb) w w' := by
 have hmem := List.mem_of_getElem? hi
 obtain ⟨pv, mv0, dv, hE, -⟩ := h.ent _ hmem
 have hFe : F eb := h.own.2.2.2 _ hmem
 have hne := (h.ne.2.2.2 _ hmem).1
 have ne : ∀ {x y : Nat}, F x → ¬ F y → y ≠ x := fun hx hy e => hy (e ▸ hx)
 have hg : w.grownBy (w.setCell ⟨eb, 2, none⟩ (.int .i32 1)) (some eb) := setCell_grown _ _ _ _
 have hE1 : Box (w.setCell ⟨eb, 2, none⟩ (.int .i32 1)) eb ([.string s, .int .u32 0, .int .i32 1, .int .u32 0] ++ pomC pomZ pv mv0 dv ++ [.int .i64 0, .string ⟨#[]⟩, .string ⟨#[]⟩, .string ⟨#[]⟩, .int .i64 0, .int .i64 0, .int .i64 0, .string ⟨#[]⟩]) := hE.setOne rfl (by simp [entC])
 refine (do_first eb _ w (Pom1Out b eb me mv r a s (readV t) (w.setCell ⟨eb, 2, none⟩ (.int .i32 1))) (hE.cell 1 _ rfl) (hE.cell 2 _ rfl) (hE.free 2) ?_
  (pom1_any b eb vs ve vg me mv r a s g t q m _ (pomC pomZ pv mv0 dv) rfl (h1.grown hg (by simp [ne hFe n1])) (h2.grown hg (by simp [ne hFe n2])) (h3.grown hg (by simp [ne hFe n3])) (h.box.grown hg (by simp [Ne.symm hne])) hE1 (ne h.own.1 n2) (ne h.own.1 n3) hne (ne h.own.1 n0) hr0 hr1 hs hbd ht hr
   ((World.cell?_setCell_other _ _ _ _ (fun e => by cases e)).trans hm))).mono ?_
 · rintro w1 ⟨-, -, pv1, mv1, dv1, hx, -⟩
   exact ⟨⟨_, hx.cell 1 _ rfl⟩, hx.free 1, hx.cell 2 _ rfl, hx.free 2⟩
 · rintro e w' ⟨rfl, w1, ⟨ho1, hb1, pv1, mv1, dv1, hx1, hp1⟩, rfl⟩
   have hxd : Box w1.drew eb ([.string s, .int .u32 0, .int .i32 1, .int .u32 0] ++ pomC (readV t) pv1 mv1 dv1 ++ [.int .i64 0, .string ⟨#[]⟩, .string ⟨#[]⟩, .string ⟨#[]⟩, .int .i64 0, .int .i64 0, .int .i64 0, .string ⟨#[]⟩]) := ⟨hx1.lt, hx1.cell, hx1.free⟩
   have hbd' : Box w1.drew b [.map (some me), .map (some mv), .int .i64 (r + 1), .int .i64 a] := ⟨hb1.lt, hb1.cell, hb1.free⟩
   have hpd : PomOwn w.heap.size w1.drew (readV t) pv1 mv1 dv1 := (hp1.base_mono hg.size).moved fun k _ _ => rfl
   have ga : w1.drew.grownBy (w1.drew.setCell ⟨eb, 1, none⟩ (.int .u32 1)) (some eb) := setCell_grown _ _ _ _
   have gb : (w1.drew.setCell ⟨eb, 1, none⟩ (.int .u32 1)).grownBy ((w1.drew.setCell ⟨eb, 1, none⟩ (.int .u32 1)).setCell ⟨eb, 2, none⟩ (.int .i32 0)) (some eb) := setCell_grown _ _ _ _
   have gc := ga.trans gb
   have hel : eb < w.heap.size := hE.lt
   have hx2 : Box (w1.drew.setCell ⟨eb, 1, none⟩ (.int .u32 1)) eb ([.string s, .int .u32 1, .int .i32 1, .int .u32 0] ++ pomC (readV t) pv1 mv1 dv1 ++ [.int .i64 0, .string ⟨#[]⟩, .string ⟨#[]⟩, .string ⟨#[]⟩, .int .i64 0, .int .i64 0, .int .i64 0, .string ⟨#[]⟩]) := hxd.setOne rfl (by simp)
   have hx3 : Box ((w1.drew.setCell ⟨eb, 1, none⟩ (.int .u32 1)).setCell ⟨eb, 2, none⟩ (.int .i32 0)) eb (entC ⟨g, s, true, readV t, probZ⟩ pv1 mv1 dv1) := hx2.setOne rfl (by simp)
   have ho : Only (fun k => k = b ∨ k = eb) w ((w1.drew.setCell ⟨eb, 1, none⟩ (.int .u32 1)).setCell ⟨eb, 2, none⟩ (.int .i32 0)) :=
    ((Only.grown (F := fun k => k = b ∨ k = eb) hg (by rintro k ⟨⟩; exact .inr rfl)).trans ho1 (fun _ _ => id)).trans ((⟨rfl, rfl, rfl, Nat.le_refl _, fun _ _ _ => rfl⟩ : Only (fun k => k = b ∨ k = eb) w1 w1.drew).trans (Only.grown (F := fun k => k = b ∨ k = eb) gc (by rintro k ⟨⟩; exact .inr rfl)) (fun _ _ => id)) (fun _ _ => id)
   exact ⟨rfl, h.turn hi rfl ho (hbd'.grown gc (by simp [Ne.symm hne])) ⟨pv1, mv1, dv1, hx3, PomKept.new (hpd.grownB gc hel) h.lt⟩, ho⟩

end Go.Proofs.YtphaeegbmfpcgaaGreatDoor

/- What store.Pom answers of a project that there is, and of one that there isn't; the conditions stand in the theorems. -/

namespace Go.Proofs.YtphaeegbmfpcgaaGreatDoor
open Go Go.RowKit

theorem size_prbS : (Tryz.prog.info? 53).map (·.size) = some 8 := by kernel_rfl
/-- The call's own variables join the blocks that the store may write. -/
theorem StoreIn.more {F G : Nat → Prop} {w W : World} {b me mv : Nat} {L : List (MEnt Gav)} {cl : Nat} {V : List (MEnt Id)} {cv : Nat} {es : List (SEnt × Nat)} {r a : Int} (h : StoreIn F w b me mv L cl V cv es r a) (hb : Below w.heap.size w W) (hG : ∀ k, G k → w.heap.size ≤ k ∧ k < W.heap.size) : StoreIn (fun k => F k ∨ G k) W b me mv L cl V cv es r a :=
 ⟨h.box.below hb h.box.lt, h.ents.below hb h.ents.lt, h.vers.below hb h.vers.lt, h.same, fun e he => (h.ent e he).only (Only.of hb) (fun k hk hF => hF.resolve_right fun hg => by have := (hG k hg).1; omega) (hb.block _ (h.lt _ (h.own.2.2.2 e he))),
  fun x => (h.row x).imp id fun ⟨v, h1, h2⟩ => ⟨v, h1, h2.below hb⟩, fun x v k h1 hk => ⟨.inl (h.rows x v k h1 hk).1, (h.rows x v k h1 hk).2⟩, h.apart, ⟨.inl h.own.1, .inl h.own.2.1, .inl h.own.2.2.1, fun e he => .inl (h.own.2.2.2 e he)⟩,
  fun k hk => hk.elim (fun hF => Nat.lt_of_lt_of_le (h.lt k hF) hb.size) (fun hg => (hG k hg).2), h.ne, h.each, h.once⟩
theorem StoreIn.back {F G G' : Nat → Prop} {w W w' : World} {b me mv : Nat} {L : List (MEnt Gav)} {cl : Nat} {V : List (MEnt Id)} {cv : Nat} {es es' : List (SEnt × Nat)} {r a r' a' : Int} (h : StoreIn F w b me mv L cl V cv es r a) (h6 : StoreIn (fun k => F k ∨ G k) W b me mv L cl V cv es' r' a') (ho : Only G' W w') (hG : ∀ k, G' k → G k) (hg : ∀ k, G k → w.heap.size ≤ k) (hs : w.heap.size ≤ W.heap.size) (he : ∀ e ∈ es', F e.2) : StoreIn F w' b me mv L cl V cv es' r' a' := by
 have hF : ∀ k, F k → ¬ G' k := fun k h1 h2 => by have := h.lt k h1; have := hg k (hG k h2); omega
 exact ⟨h6.box.only ho (hF _ h.own.1), h6.ents.only ho (hF _ h.own.2.1), h6.vers.only ho (hF _ h.own.2.2.1), h6.same,
  fun e h1 => (h6.ent e h1).only (ho.mono fun k _ h2 => .inr (hG k h2)) (fun k _ h2 => .inl h2) (ho.block _ (h6.lt _ (h6.own.2.2.2 e h1)) (hF _ (he e h1))),
  fun x => (h6.row x).imp id fun ⟨v, h1, h2⟩ => ⟨v, h1, h2.only ho fun k hk => hF _ (h.rows x v k h1 hk).1⟩,
  fun x v k h1 hk => ⟨(h.rows x v k h1 hk).1, (h.rows x v k h1 hk).2.1, (h.rows x v k h1 hk).2.2.1, (h.rows x v k h1 hk).2.2.2.1, (h6.rows x v k h1 hk).2.2.2.2⟩, h.apart, ⟨h.own.1, h.own.2.1, h.own.2.2.1, he⟩,
  fun k hk => Nat.lt_of_lt_of_le (Nat.lt_of_lt_of_le (h.lt k hk) hs) ho.size, h6.ne, h6.each, h6.once⟩
theorem Only.later {F : Nat → Prop} {w w' w1 : World} (h : Only F w w') (hb : Below w'.heap.size w' w1) : Only F w w1 := h.trans (Only.of hb) fun _ _ => id
def PomAns (F : Nat → Prop) (b : Nat) (es : List (SEnt × Nat)) (r a : Int) (p : Pom) (x : Prob) (w : World) (e : Ending) (w' : World) : Prop :=
 (∃ a1 c1 a2 c2 a3 c3, e = .returned (.tuple #[.agg #[.bool p.hasParent, .string p.parent.group, .string p.parent.artifact, .string p.parent.version, .string p.group, .string p.artifact, .string p.version, .string p.packaging, .slice a1 0 c1, .slice a2 0 c2, .slice a3 0 c3], .agg (probC x).toArray])) ∧
  StoreAt F w' b es r a ∧ Only F w w'
def pnUpd (g : Gav) (x0 x1 x2 x3 x4 x5 x6 x7 x8 x9 x10 x11 x12 x13 x14 x15 x16 x20 x21 x22 x23 x24 x25 x26 x27 x28 x29 x30 x31 x32 x33 x34 x35 x36 x37 x38 x39 : Value) (f0 f1 f2 _f3 _f4 : Bool)  : Act :=
 ⟨#[x0, x1, x2, x3, x4, x5, x6, x7, x8, x9, x10, x11, x12, x13, x14, x15, x16, cond f0 (.agg #[.bool false, .string ⟨#[]⟩, .string ⟨#[]⟩, .string ⟨#[]⟩, .string ⟨#[]⟩, .string ⟨#[]⟩, .string ⟨#[]⟩, .string ⟨#[]⟩, .slice none 0 0, .slice none 0 0, .slice none 0 0]) undef, cond f1 (.agg #[.string g.group, .string g.artifact, .string g.version]) undef, cond f2 (.agg #[.int .i64 25, .string g.group, .string g.artifact, .string g.version, .int .i64 0, .int .i64 0, .int .i64 0, .string ⟨#[]⟩]) undef, x20, x21, x22, x23, x24, x25, x26, x27, x28, x29, x30, x31, x32, x33, x34, x35, x36, x37, x38, x39], []⟩
inductive pnJ (H : Nat) (g : Gav) (V : World) (x0 x1 x2 x3 x4 x5 x6 x7 x8 x9 x10 x11 x12 x13 x14 x15 x16 x20 x21 x22 x23 x24 x25 x26 x27 x28 x29 x30 x31 x32 x33 x34 x35 x36 x37 x38 x39 : Value) : Array Bool → Act → World → Prop where
 | mk (f0 f1 f2 f3 f4 : Bool)  (w' : World) (ch2 : Hid (f2 = true → f1 = true)) (ch3 : Hid (f3 = true → f0 = true)) (ch4 : Hid (f4 = true → f2 = true ∧ f3 = true ∧ f0 = true ∧ f1 = true)) (hB : (f3 = false → Below V.heap.size V w')) (rg : Box w' (H + 1) [.string g.group, .string g.artifact, .string g.version]) (rp : (f3 = false → Box w' (H + 2) [.bool false, .string ⟨#[]⟩, .string ⟨#[]⟩, .string ⟨#[]⟩, .string ⟨#[]⟩, .string ⟨#[]⟩, .string ⟨#[]⟩, .string ⟨#[]⟩, .slice none 0 0, .slice none 0 0, .slice none 0 0])) (rq : (f3 = true → Box w' (H + 2) [.bool false, .string ⟨#[]⟩, .string ⟨#[]⟩, .string ⟨#[]⟩, .string ⟨#[]⟩, .string ⟨#[]⟩, .string ⟨#[]⟩, .string ⟨#[]⟩, .slice none 0 0, .slice none 0 0, .slice none 0 0])) (rr : (f4 = false → Box w' (H + 3) [.int .i64 0, .string ⟨#[]⟩, .string ⟨#[]⟩, .string ⟨#[]⟩, .int .i64 0, .int .i64 0, .int .i64 0, .string ⟨#[]⟩])) (rs : (f4 = true → Box w' (H + 3) [.int .i64 25, .string g.group, .string g.artifact, .string g.version, .int .i64 0, .int .i64 0, .int .i64 0, .string ⟨#[]⟩])) (bw : Only (fun k => k = H + 2 ∨ k = H + 3) V w') : pnJ H g V x0 x1 x2 x3 x4 x5 x6 x7 x8 x9 x10 x11 x12 x13 x14 x15 x16 x20 x21 x22 x23 x24 x25 x26 x27 x28 x29 x30 x31 x32 x33 x34 x35 x36 x37 x38 x39 #[f0, f1, f2, f3, f4] (pnUpd g x0 x1 x2 x3 x4 x5 x6 x7 x8 x9 x10 x11 x12 x13 x14 x15 x16 x20 x21 x22 x23 x24 x25 x26 x27 x28 x29 x30 x31 x32 x33 x34 x35 x36 x37 x38 x39 f0 f1 f2 f3 f4 ) w'
theorem pnJ.at {H : Nat} {g : Gav} {V : World} {x0 x1 x2 x3 x4 x5 x6 x7 x8 x9 x10 x11 x12 x13 x14 x15 x16 x20 x21 x22 x23 x24 x25 x26 x27 x28 x29 x30 x31 x32 x33 x34 x35 x36 x37 x38 x39 : Value} {listed : Array Bool} {atx : Act} {w' : World} (f0 f1 f2 f3 f4 : Bool)  (hl : listed = #[f0, f1, f2, f3, f4]) (ha : atx = pnUpd g x0 x1 x2 x3 x4 x5 x6 x7 x8 x9 x10 x11 x12 x13 x14 x15 x16 x20 x21 x22 x23 x24 x25 x26 x27 x28 x29 x30 x31 x32 x33 x34 x35 x36 x37 x38 x39 f0 f1 f2 f3 f4 ) (ch2 : Hid (f2 = true → f1 = true)) (ch3 : Hid (f3 = true → f0 = true)) (ch4 : Hid (f4 = true → f2 = true ∧ f3 = true ∧ f0 = true ∧ f1 = true)) (hB : (f3 = false → Below V.heap.size V w')) (rg : Box w' (H + 1) [.string g.group, .string g.artifact, .string g.version]) (rp : (f3 = false → Box w' (H + 2) [.bool false, .string ⟨#[]⟩, .string ⟨#[]⟩, .string ⟨#[]⟩, .string ⟨#[]⟩, .string ⟨#[]⟩, .string ⟨#[]⟩, .string ⟨#[]⟩, .slice none 0 0, .slice none 0 0, .slice none 0 0])) (rq : (f3 = true → Box w' (H + 2) [.bool false, .string ⟨#[]⟩, .string ⟨#[]⟩, .string ⟨#[]⟩, .string ⟨#[]⟩, .string ⟨#[]⟩, .string ⟨#[]⟩, .string ⟨#[]⟩, .slice none 0 0, .slice none 0 0, .slice none 0 0])) (rr : (f4 = false → Box w' (H + 3) [.int .i64 0, .string ⟨#[]⟩, .string ⟨#[]⟩, .string ⟨#[]⟩, .int .i64 0, .int .i64 0, .int .i64 0, .string ⟨#[]⟩])) (rs : (f4 = true → Box w' (H + 3) [.int .i64 25, .string g.group, .string g.artifact, .string g.version, .int .i64 0, .int .i64 0, .int .i64 0, .string ⟨#[]⟩])) (bw : Only (fun k => k = H + 2 ∨ k = H + 3) V w') : pnJ H g V x0 x1 x2 x3 x4 x5 x6 x7 x8 x9 x10 x11 x12 x13 x14 x15 x16 x20 x21 x22 x23 x24 x25 x26 x27 x28 x29 x30 x31 x32 x33 x34 x35 x36 x37 x38 x39 listed atx w' := by
 subst hl ha
 exact .mk f0 f1 f2 f3 f4  w' ch2 ch3 ch4 hB rg rp rq rr rs bw
set_option maxRecDepth 100000 in
set_option maxHeartbeats 8000000 in
theorem pom_no (g : Gav) (w : World) {F : Nat → Prop} {b me mv : Nat} {L : List (MEnt Gav)} {cl : Nat} {V : List (MEnt Id)} {cv : Nat} {es : List (SEnt × Nat)} {r a : Int} (h : StoreIn F w b me mv L cl V cv es r a) (hh : hasG es g = false) (ha0 : 0 ≤ a) (ha1 : a < 4611686018427387904) :
    Calls Tryz.prog 15 #[ptr b, .agg #[.string g.group, .string g.artifact, .string g.version]] w (PomAns F b es r (a + 1) pomZ ⟨25, g, 0, 0, 0, noS⟩ w) := by
 have HHG := Lib.hid hh
 clear hh
 have hw : IntKind.i64.wrap (a + 1) = a + 1 := IntWalk.i64_in _ (by omega)
 have HW := Lib.hid hw
 have HS := Lib.hid h
 clear hw h
 unfold ptr
 go_enter Tryz.func15, Tryz.ntmps15
 go_upto_region 1 with fail
 refine wp_world ?_
 intro W hW
 have x0 : Box W w.heap.size [.pointer (some ⟨b, 0, none⟩)] := by rw [hW]; exact (((Box.new w [.pointer (some ⟨b, 0, none⟩)] _ _ rfl).alloc _).alloc _).alloc _
 have x1 : Box W (w.heap.size + 1) [.string g.group, .string g.artifact, .string g.version] := by rw [hW]; exact ((Box.new _ [.string g.group, .string g.artifact, .string g.version] _ _ (by simp)).alloc _).alloc _
 have x2 : Box W (w.heap.size + 2) [.bool false, .string ⟨#[]⟩, .string ⟨#[]⟩, .string ⟨#[]⟩, .string ⟨#[]⟩, .string ⟨#[]⟩, .string ⟨#[]⟩, .string ⟨#[]⟩, .slice none 0 0, .slice none 0 0, .slice none 0 0] := by rw [hW]; exact (Box.new _ [.bool false, .string ⟨#[]⟩, .string ⟨#[]⟩, .string ⟨#[]⟩, .string ⟨#[]⟩, .string ⟨#[]⟩, .string ⟨#[]⟩, .string ⟨#[]⟩, .slice none 0 0, .slice none 0 0, .slice none 0 0] _ _ (by simp)).alloc _
 have x3 : Box W (w.heap.size + 3) [.int .i64 0, .string ⟨#[]⟩, .string ⟨#[]⟩, .string ⟨#[]⟩, .int .i64 0, .int .i64 0, .int .i64 0, .string ⟨#[]⟩] := by rw [hW]; exact Box.new _ [.int .i64 0, .string ⟨#[]⟩, .string ⟨#[]⟩, .string ⟨#[]⟩, .int .i64 0, .int .i64 0, .int .i64 0, .string ⟨#[]⟩] _ _ (by simp)
 have hb : Below w.heap.size w W := by rw [hW]; exact ((((Below.refl _ w).alloc (Nat.le_refl _) _).alloc (by simp) _).alloc (by simp; omega) _).alloc (by simp; omega) _
 clear hW
 have hS : StoreIn (fun k => F k ∨ (k = w.heap.size + 2 ∨ k = w.heap.size + 3)) W b me mv L cl V cv es r a := HS.out.more hb (fun k hk => hk.elim (fun e => ⟨by rw [e]; omega, by rw [e]; exact x2.lt⟩) (fun e => ⟨by rw [e]; omega, by rw [e]; exact x3.lt⟩))
 have hbl := HS.out.box.lt
 have v0 := x0.cell 0 _ rfl
 have vl := x0.lt
 have b3 := hS.box.cell 3 _ rfl
 have b0 := hS.box.cell 0 _ rfl
 have bl := hS.box.lt
 have ha := add_any ⟨b, 3, none⟩ a 1 (a + 1) W b3 (hS.box.free 3) HW.out
 have hg : W.grownBy (W.setCell ⟨b, 3, none⟩ (.int .i64 (a + 1))) (some b) := setCell_grown _ _ _ _
 have hS1 := hS.counts (r' := r) (a' := a + 1) (Only.grown (F := fun k => k = b) hg (by rintro k ⟨⟩; rfl)) (hS.box.setOne rfl (by simp))
 have HX0 := Lib.hid (x0.grown hg (by simp; omega))
 have HX1 := Lib.hid (x1.grown hg (by simp; omega))
 have HX2 := Lib.hid (x2.grown hg (by simp; omega))
 have HX3 := Lib.hid (x3.grown hg (by simp; omega))
 have HO1 : Hid (Only (fun k => k = b) w _) := ((Only.of (F := fun k => k = b) hb).trans (Only.grown hg (by rintro k ⟨⟩; rfl)) (fun _ _ => id))
 have HS1 := Lib.hid hS1
 have HA := Lib.hid ha
 clear x0 x1 x2 x3 hb hS ha hg hS1 b3
 generalize W.setCell ⟨b, 3, none⟩ (.int .i64 (a + 1)) = W1 at *
 go_wp2_with fail
 refine HA.out.mono ?_
 rintro e w1 ⟨rfl, rfl⟩
 clear v0 vl b0 bl HA HW
 have v0 := HX0.out.cell 0 _ rfl
 have vl := HX0.out.lt
 obtain ⟨g0, g1, g2⟩ := bxc3 HX1.out
 have gl := HX1.out.lt
 go_wp2_with fail
 refine (has_any g _ (⟨_, _, _, _, _, _, HS1.out⟩ : StoreAt _ _ b es r (a + 1))).mono ?_
 rintro e W2 ⟨rfl, hb2⟩
 rw [HHG.out]
 have HS2 : Hid (StoreIn (fun k => F k ∨ (k = w.heap.size + 2 ∨ k = w.heap.size + 3)) W2 b me mv L cl V cv es r (a + 1)) := HS1.out.only (Only.of (F := fun _ => False) hb2) (fun _ _ => id) fun e he => (HS1.out.ent e he).only (Only.of hb2) (fun _ _ => id) (hb2.block _ (HS1.out.lt _ (HS1.out.own.2.2.2 e he)))
 have HY0 := Lib.hid (HX0.out.below hb2 vl)
 have HY1 := Lib.hid (HX1.out.below hb2 gl)
 have HY2 := Lib.hid (HX2.out.below hb2 HX2.out.lt)
 have HY3 := Lib.hid (HX3.out.below hb2 HX3.out.lt)
 have HO2 := Lib.hid (HO1.out.later hb2)
 clear v0 vl g0 g1 g2 gl hb2 HX0 HX1 HX2 HX3 HO1 HS1
 obtain ⟨H, hH⟩ : ∃ H, H = w.heap.size := ⟨_, rfl⟩
 rw [← hH] at HS2 HY0 HY1 HY2 HY3 hbl
 rw [← hH]
 have HHE : Hid (H = w.heap.size) := hH
 have HBL : Hid (b < H) := hbl
 clear hH hbl

 have HS2b := HS2
 go_upto_region 4 with fail
 refine wp_region_flags0 (pnJ H g W2 _ _ _ _ _ _ _ _ _ _ _ _ _ _ _ _ _ _ _ _ _ _ _ _ _ _ _ _ _ _ _ _ _ _ _ _ _) (by kernel_rfl) 5 rfl (by kernel_rfl) (pnJ.at false false false false false  rfl (by unfold pnUpd; rfl) ?i0 ?i1 ?i2 ?i3 ?i4 ?i5 ?i6 ?i7 ?i8 ?i9) ?fin ?step
 case i0 => exact Lib.hid (by simp)
 case i1 => exact Lib.hid (by simp)
 case i2 => exact Lib.hid (by simp)
 case i3 => exact fun h0 => belowN (Below.refl _ _) 1
 case i4 => exact HY1.out.drewN 1
 case i5 => exact fun _ => HY2.out.drewN 1
 case i6 => exact by simp
 case i7 => exact fun _ => HY3.out.drewN 1
 case i8 => exact by simp
 case i9 => exact ⟨rfl, rfl, rfl, Nat.le_refl _, fun _ _ _ => rfl⟩
 case fin =>
  intro a' w' hJ
  generalize hl : Array.replicate 5 true = Lz at hJ
  cases hJ with
  | mk f0 f1 f2 f3 f4 _ ch2 ch3 ch4 hB rg rp rq rr rs bw =>
   have hl' : [true, true, true, true, true] = [f0, f1, f2, f3, f4] := congrArg Array.toList hl
   simp only [List.cons.injEq, and_true] at hl'
   obtain ⟨rfl, rfl, rfl, rfl, rfl⟩ := hl'
   clear hl
   unfold pnUpd
   simp only [cond_true]
   have HF1 := Lib.hid (rq rfl)
   have HF2 := Lib.hid (rs rfl)
   have HBW := Lib.hid bw
   clear ch2 ch3 ch4 hB rg rp rq rr rs bw
   obtain ⟨y0, y1, y2, y3, y4, y5, y6, y7, y8, y9, y10⟩ := bxc11 HF1.out
   obtain ⟨z0, z1, z2, z3, z4, z5, z6, z7⟩ := bxc8 HF2.out
   have yl := HF1.out.lt
   have zl := HF2.out.lt
   go_wp2
   refine bodyPost_ret (v := .tuple #[.agg #[.bool false, .string ⟨#[]⟩, .string ⟨#[]⟩, .string ⟨#[]⟩, .string ⟨#[]⟩, .string ⟨#[]⟩, .string ⟨#[]⟩, .string ⟨#[]⟩, .slice none 0 0, .slice none 0 0, .slice none 0 0], .agg #[.int .i64 25, .string g.group, .string g.artifact, .string g.version, .int .i64 0, .int .i64 0, .int .i64 0, .string ⟨#[]⟩]]) (by simp [results, Tryz.results15, go_sem, y0, y1, y2, y3, y4, y5, y6, y7, y8, y9, y10, z0, z1, z2, z3, z4, z5, z6, z7]) rfl ?_
   exact ⟨⟨_, _, _, _, _, _, rfl⟩, ⟨_, _, _, _, _, _, HS.out.back HS2b.out HBW.out (fun _ h => h) (by rintro k (rfl | rfl) <;> (have := HHE.out; omega)) HO2.out.size HS.out.own.2.2.2⟩, (HO2.out.mono (fun k _ e => by rw [e]; exact HS.out.own.1)).trans HBW.out (by rintro k hk (rfl | rfl) <;> (have := HHE.out; omega))⟩
 case step =>
  intro listed a' w' hJ i hi
  cases hJ with
  | mk f0 f1 f2 f3 f4 _ ch2 ch3 ch4 hB rg rp rq rr rs bw =>
   rw [mem_ready] at hi
   obtain ⟨hu, o, ho, ha⟩ := hi
   have hi8 : i < 5 := (Array.getElem?_eq_some_iff.1 ho).1
   rcases (by omega : i = 0 ∨ i = 1 ∨ i = 2 ∨ i = 3 ∨ i = 4) with rfl | rfl | rfl | rfl | rfl
   · have ho' := ho
     simp at hu ho
     subst hu ho
     clear ha
     have e3 : f3 = false := Bool.eq_false_iff.2 fun h => Bool.false_ne_true ((ch3.out h))
     have e4 : f4 = false := Bool.eq_false_iff.2 fun h => Bool.false_ne_true ((ch3.out (ch4.out h).2.1))
     subst e3 e4
     refine .inl ?_
     unfold pnUpd Oper.wp
     go_simp
     exact pnJ.at true f1 f2 false false rfl rfl (ch2) (Lib.hid (by simp)) (Lib.hid (by simp)) (hB) (rg) (rp) (by simp) (rr) (by simp) (bw)
   · have ho' := ho
     simp at hu ho
     subst hu ho
     clear ha
     have e2 : f2 = false := Bool.eq_false_iff.2 fun h => Bool.false_ne_true ((ch2.out h))
     have e4 : f4 = false := Bool.eq_false_iff.2 fun h => Bool.false_ne_true ((ch2.out (ch4.out h).1))
     subst e2 e4
     obtain ⟨k0, k1, k2⟩ := bxc3 rg
     have kl := rg.lt
     refine .inl ?_
     unfold pnUpd Oper.wp
     go_simp
     exact pnJ.at f0 true false f3 false rfl rfl (Lib.hid (by simp)) (ch3) (Lib.hid (by simp)) (hB) (rg) (rp) (rq) (rr) (by simp) (bw)
   · have ho' := ho
     simp at hu ho
     subst hu ho
     simp [Region.binds] at ha
     obtain rfl : f1 = true := by simp only [ha]
     clear ha
     have e4 : f4 = false := Bool.eq_false_iff.2 fun h => Bool.false_ne_true ((ch4.out h).1)
     subst e4
     refine .inl ?_
     unfold pnUpd Oper.wp
     go_simp
     exact pnJ.at f0 true true f3 false rfl rfl (Lib.hid (by simp)) (ch3) (Lib.hid (by simp)) (hB) (rg) (rp) (rq) (rr) (by simp) (bw)
   · have ho' := ho
     simp at hu ho
     subst hu ho
     simp [Region.binds] at ha
     obtain rfl : f0 = true := by simp only [ha]
     clear ha
     have e4 : f4 = false := Bool.eq_false_iff.2 fun h => Bool.false_ne_true ((ch4.out h).2.1)
     subst e4
     refine .inl ?_
     unfold pnUpd
     refine wp_store_box 48 (.tmp 4) (.tmp 17) rfl (H + 2) [.bool false, .string ⟨#[]⟩, .string ⟨#[]⟩, .string ⟨#[]⟩, .string ⟨#[]⟩, .string ⟨#[]⟩, .string ⟨#[]⟩, .string ⟨#[]⟩, .slice none 0 0, .slice none 0 0, .slice none 0 0] [.bool false, .string ⟨#[]⟩, .string ⟨#[]⟩, .string ⟨#[]⟩, .string ⟨#[]⟩, .string ⟨#[]⟩, .string ⟨#[]⟩, .string ⟨#[]⟩, .slice none 0 0, .slice none 0 0, .slice none 0 0] (by simp [Act.eval]) (by simp [Act.eval]) (rp rfl) rfl size_pomS (by simp [Value.oneCell']) ?_
     intro wz hz1 hg1
     exact pnJ.at true f1 f2 true false rfl rfl (ch2) (Lib.hid (by simp)) (Lib.hid (by simp)) (by simp) (rg.grown hg1 (by simp)) (by simp) (fun _ => hz1) (fun h => (rr h).grown hg1 (by simp)) (by simp) (bw.trans (Only.grown hg1 (by rintro k ⟨⟩; exact .inl rfl)) (fun _ _ => id))
   · have ho' := ho
     simp at hu ho
     subst hu ho
     simp [Region.binds] at ha
     obtain rfl : f2 = true := by simp only [ha]
     obtain rfl : f3 = true := by simp only [ha]
     obtain rfl : f0 = true := by simp only [ha]
     obtain rfl : f1 = true := by simp only [ha]
     clear ha
     refine .inl ?_
     unfold pnUpd
     refine wp_store_box 53 (.tmp 5) (.tmp 19) rfl (H + 3) [.int .i64 0, .string ⟨#[]⟩, .string ⟨#[]⟩, .string ⟨#[]⟩, .int .i64 0, .int .i64 0, .int .i64 0, .string ⟨#[]⟩] [.int .i64 25, .string g.group, .string g.artifact, .string g.version, .int .i64 0, .int .i64 0, .int .i64 0, .string ⟨#[]⟩] (by simp [Act.eval]) (by simp [Act.eval]) (rr rfl) rfl size_prbS (by simp [Value.oneCell']) ?_
     intro wz hz1 hg1
     exact pnJ.at true true true true true rfl rfl (Lib.hid (by simp)) (Lib.hid (by simp)) (Lib.hid (by simp)) (by simp) (rg.grown hg1 (by simp)) (by simp) (fun h => (rq h).grown hg1 (by simp)) (by simp) (fun _ => hz1) (bw.trans (Only.grown hg1 (by rintro k ⟨⟩; exact .inr rfl)) (fun _ _ => id))

end Go.Proofs.YtphaeegbmfpcgaaGreatDoor
