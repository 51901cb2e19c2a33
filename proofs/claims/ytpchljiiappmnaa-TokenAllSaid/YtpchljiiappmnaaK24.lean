/- The walks of At, and of the closure that All defers; their conditions stand in the theorems. -/
import Derived.Test.YtpchljiiappmnaaK23
import Derived.Defers
import Derived.Recover
import Derived.Laws.Pointers
namespace Go.Proofs.Ytpchljiiappmnaa
open Go Go.RowKit

/-- A place in memory. -/
def placeV (s : Bs) (o : Nat) : Value := .agg #[.int .i64 o, .int .i64 (lineCol (s.take o)).1, .int .i64 (lineCol (s.take o)).2]

set_option maxRecDepth 100000 in
set_option maxHeartbeats 2000000 in
theorem at_any (s : S) (o : Nat) (w : World) (h : o ≤ s.size) (hs : s.size ≤ 1000000) :
    Calls Try.prog 51 #[.string s, .int .i64 o] w fun e w' => e = .returned (placeV s.data.toList o) ∧ Below w.heap.size w w' := by
  have hE : Hid ((s.extract 0 o).data.toList = s.data.toList.take o) := by show _ = _; rw [Lib.extract_data]; simp
  have hz : Hid ((s.extract 0 o).size = o) := by show _ = _; rw [← size_data, hE.out, List.length_take, size_data]; omega
  have HC := Lib.hid (fun w => count_any (s.extract 0 o) w)
  have HL := Lib.hid (fun w => lastIndex_any (s.extract 0 o) w (by rw [hz.out]; omega))
  rw [hE.out] at HC HL
  rw [hz.out] at HL
  obtain ⟨b1, b2, b3, b4⟩ := lineCol_pos (s.data.toList.take o)
  rw [List.length_take] at b3 b4
  have b5 : (lineCol (s.data.toList.take o)).1 ≤ 1000001 := by omega
  have b6 : (lineCol (s.data.toList.take o)).2 ≤ 1000001 := by omega
  unfold placeV
  generalize (lineCol (s.data.toList.take o)).1 = li at *
  generalize (lineCol (s.data.toList.take o)).2 = co at *
  clear b3 b4 hE
  have m1 : min (o : Int) (s.size : Int) = (o : Int) := by omega
  have m2 : max (0 : Int) (o : Int) = (o : Int) := by omega
  go_enter Try.func51, Try.ntmps51
  go_wp2_with fail
  refine (HC.out _).mono ?_
  rintro e w' ⟨rfl, rfl⟩
  go_wp2_with fail
  refine (HL.out _).mono ?_
  rintro e w' ⟨rfl, rfl⟩
  go_wp2
  refine bodyPost_ret (v := .agg #[.int .i64 o, .int .i64 (1 + ((li : Int) - 1)), .int .i64 ((o : Int) - ((o : Int) - co))]) (by simp [results, Try.results51, go_sem]) rfl ⟨?_, (Below.refl _ _).alloc (Nat.le_refl _) _⟩
  rw [show 1 + ((li : Int) - 1) = (li : Int) by omega, show (o : Int) - ((o : Int) - co) = (co : Int) by omega]

theorem assert_fault (x o : Int) (w : World) : (Instr.typeAssert (.iface 71 (.agg #[.int .i64 x, .int .i64 o])) 20 71 true).run Try.prog w = .ok (.tuple #[.agg #[.int .i64 x, .int .i64 o], .bool true]) w := by kernel_rfl

set_option maxRecDepth 100000 in
set_option maxHeartbeats 4000000 in
theorem catch_panicking (B : Nat) (s : S) (x : Int) (o : Nat) (older : List PanicEntry) (v1 v2 p0 p1 p2 : Value) (w : World) (ho : o ≤ s.size) (hs : s.size ≤ 1000000)
    (h0 : Box w B [.string s]) (h1 : Box w (B + 1) [v1]) (h2 : Box w (B + 2) [v2]) (h3 : Box w (B + 3) [p0, p1, p2]) :
    CallsD Try.prog 52 #[.pointer (some ⟨B, 0, none⟩), .pointer (some ⟨B + 1, 0, none⟩), .pointer (some ⟨B + 2, 0, none⟩), .pointer (some ⟨B + 3, 0, none⟩)] (.panicking ({ v := faultV x o, recovered := false } :: older)) w fun e u' w' =>
      e = .returned (.tuple #[]) ∧ u' = .panicking ({ v := faultV x o, recovered := true } :: older) ∧ Box w' (B + 1) [.slice none 0 0] ∧ Box w' (B + 2) [.int .i64 x] ∧ (∃ q0 q1 q2, placeV s.data.toList o = .agg #[q0, q1, q2] ∧ Box w' (B + 3) [q0, q1, q2]) ∧ Below B w w' := by
  refine callsD_of_wpS Try.func52 rfl fun c₀ cs hu => ?_
  apply wpS_seq
  apply wpS_region
  simp [wpOpsS, go_sem, recoverD, hu, Try.ntmps52, Exit.thenS]
  refine wpS_of_wp ?_
  have ht : ∀ a b c d v : Value, (#[a, b, c, d] ++ (Array.replicate 15 undef).setIfInBounds 3 v : Array Value) = #[a, b, c, d, undef, undef, undef, v, undef, undef, undef, undef, undef, undef, undef, undef, undef, undef, undef] := fun _ _ _ _ _ => rfl
  rw [ht]
  clear ht
  simp only [faultV]
  have HAT : Hid (∀ w, Calls Try.prog 51 #[.string s, .int .i64 o] w fun e w' => e = .returned (.agg #[.int .i64 o, .int .i64 (lineCol (s.data.toList.take o)).1, .int .i64 (lineCol (s.data.toList.take o)).2]) ∧ Below w.heap.size w w') := fun w => at_any s o w ho hs
  have hta := assert_fault x o
  have H0 := Lib.hid (And.intro h0 (And.intro h1 (And.intro h2 h3)))
  have l3 := h3.lt
  clear h0 h1 h2 h3
  generalize hli : (lineCol (s.data.toList.take o)).1 = li at *
  generalize hco : (lineCol (s.data.toList.take o)).2 = co at *
  have HLI := Lib.hid hli
  have HCO := Lib.hid hco
  clear hli hco
  go_wp2
  refine wp_world ?_
  intro W hW
  have hF : Box W w.heap.size [.int .i64 x, .int .i64 o] := by rw [hW]; exact Box.new w _ _ _ rfl
  have hbW : Below w.heap.size w W := by rw [hW]; exact (Below.refl _ _).alloc (Nat.le_refl _) _
  clear hW hta
  have h0 := H0.out.1.below hbW H0.out.1.lt
  have h1 := H0.out.2.1.below hbW H0.out.2.1.lt
  have h2 := H0.out.2.2.1.below hbW H0.out.2.2.1.lt
  have h3 := H0.out.2.2.2.below hbW H0.out.2.2.2.lt
  have a0 := h0.cell 0 _ rfl
  have a1 := hF.cell 0 _ rfl
  have a2 := hF.cell 1 _ rfl
  have a3 := h1.cell 0 _ rfl
  have a4 := h2.cell 0 _ rfl
  have a5 := h3.cell 0 _ rfl
  have a6 := h3.cell 1 _ rfl
  have a7 := h3.cell 2 _ rfl
  have f3 := h1.free 0
  have f4 := h2.free 0
  have f5 := h3.free 0
  have f6 := h3.free 1
  have f7 := h3.free 2
  have lF := hF.lt
  have KF := Lib.hid hF
  have K1 := Lib.hid h1
  have K2 := Lib.hid h2
  have K3 := Lib.hid h3
  clear h0 h1 h2 h3 hF
  go_region_with ((go_at_call 51; refine (HAT.out _).mono ?_; rintro e w9 ⟨rfl, hb9'⟩; have hb9 : Hid (Below W.heap.size W w9) := (Below.drew (Below.refl W.heap.size W)).trans hb9'; clear hb9'; have b1 := (KF.out.below hb9.out KF.out.lt).cell 0 _ rfl; have b3 := (K1.out.below hb9.out K1.out.lt).cell 0 _ rfl; have b4 := (K2.out.below hb9.out K2.out.lt).cell 0 _ rfl; have b5 := (K3.out.below hb9.out K3.out.lt).cell 0 _ rfl; have b6 := (K3.out.below hb9.out K3.out.lt).cell 1 _ rfl; have b7 := (K3.out.below hb9.out K3.out.lt).cell 2 _ rfl; have g3 := (K1.out.below hb9.out K1.out.lt).free 0; have g4 := (K2.out.below hb9.out K2.out.lt).free 0; have g5 := (K3.out.below hb9.out K3.out.lt).free 0; have g6 := (K3.out.below hb9.out K3.out.lt).free 1; have g7 := (K3.out.below hb9.out K3.out.lt).free 2; have l9 := (K3.out.below hb9.out K3.out.lt).lt))
  all_goals
    have z1 : Box (((((w9.setCell ⟨B + 1, 0, none⟩ (.slice none 0 0)).setCell ⟨B + 2, 0, none⟩ (.int .i64 x)).setCell ⟨B + 3, 0, none⟩ (.int .i64 o)).setCell ⟨B + 3, 1, none⟩ (.int .i64 li)).setCell ⟨B + 3, 2, none⟩ (.int .i64 co)) (B + 1) [.slice none 0 0] :=
      (((((K1.out.below hb9.out K1.out.lt).set 0 _).grownB (setCell_grown _ (B + 2) 0 _) (by omega)).grownB (setCell_grown _ (B + 3) 0 _) (by omega)).grownB (setCell_grown _ (B + 3) 1 _) (by omega)).grownB (setCell_grown _ (B + 3) 2 _) (by omega)
    have z2 : Box (((((w9.setCell ⟨B + 1, 0, none⟩ (.slice none 0 0)).setCell ⟨B + 2, 0, none⟩ (.int .i64 x)).setCell ⟨B + 3, 0, none⟩ (.int .i64 o)).setCell ⟨B + 3, 1, none⟩ (.int .i64 li)).setCell ⟨B + 3, 2, none⟩ (.int .i64 co)) (B + 2) [.int .i64 x] :=
      (((((K2.out.below hb9.out K2.out.lt).grownB (setCell_grown _ (B + 1) 0 _) (by omega)).set 0 _).grownB (setCell_grown _ (B + 3) 0 _) (by omega)).grownB (setCell_grown _ (B + 3) 1 _) (by omega)).grownB (setCell_grown _ (B + 3) 2 _) (by omega)
    have z3 : Box (((((w9.setCell ⟨B + 1, 0, none⟩ (.slice none 0 0)).setCell ⟨B + 2, 0, none⟩ (.int .i64 x)).setCell ⟨B + 3, 0, none⟩ (.int .i64 o)).setCell ⟨B + 3, 1, none⟩ (.int .i64 li)).setCell ⟨B + 3, 2, none⟩ (.int .i64 co)) (B + 3) [.int .i64 o, .int .i64 li, .int .i64 co] :=
      (((((K3.out.below hb9.out K3.out.lt).grownB (setCell_grown _ (B + 1) 0 _) (by omega)).grownB (setCell_grown _ (B + 2) 0 _) (by omega)).set 0 _).set 1 _).set 2 _
    have z4 : Below B w (((((w9.setCell ⟨B + 1, 0, none⟩ (.slice none 0 0)).setCell ⟨B + 2, 0, none⟩ (.int .i64 x)).setCell ⟨B + 3, 0, none⟩ (.int .i64 o)).setCell ⟨B + 3, 1, none⟩ (.int .i64 li)).setCell ⟨B + 3, 2, none⟩ (.int .i64 co)) :=
      ((((((hbW.mono (by omega)).trans (hb9.out.mono (by omega))).setCell (p := ⟨B + 1, 0, none⟩) (by simp) _).setCell (p := ⟨B + 2, 0, none⟩) (by simp) _).setCell (p := ⟨B + 3, 0, none⟩) (by simp) _).setCell (p := ⟨B + 3, 1, none⟩) (by simp) _).setCell (p := ⟨B + 3, 2, none⟩) (by simp) _
    exact ⟨rfl, _, rfl, .tuple #[], by simp [results, Try.results52, go_sem], rfl, rfl, z1, z2, ⟨.int .i64 o, .int .i64 li, .int .i64 co, by unfold placeV; rw [HLI.out, HCO.out], z3⟩, z4⟩

end Go.Proofs.Ytpchljiiappmnaa
