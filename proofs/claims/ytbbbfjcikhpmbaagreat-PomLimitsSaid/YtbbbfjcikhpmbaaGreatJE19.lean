/- The document's number's text; the conditions stand in the theorem. -/
import Derived.Test.YtbbbfjcikhpmbaaGreatJE18
import Derived.Test.YtbbbfjcikhpmbaaGreatJE15
import Derived.IntWalk
namespace Go.Proofs.YtbbbfjcikhpmbaaGreat
open Go Go.RowKit

def nmUpd (n : Nat) (x0 x1 x3 x4 x5 x6 x7 x8 x9 : Value) (f0 f1 f2 f3 f4 f5 f6 f7 f8 f9 f10 : Bool) (H : Nat) : Act :=
 ⟨#[x0, x1, cond f10 (.string (bs (numP n))) (.string ⟨#[]⟩), x3, x4, x5, x6, x7, x8, x9, cond f0 (.int .i64 (n : Nat)) undef, cond f1 (.int .i64 ((n : Int) / 10)) undef, cond f2 (.string (bs (numP (n / 10)))) undef, cond f3 (.int .i64 (n : Nat)) undef, cond f4 (.int .i64 ((n : Int) % 10)) undef, cond f5 (.int .i64 (48 + (n : Int) % 10)) undef, cond f6 (.int .u8 (48 + (n : Int) % 10)) undef, cond f7 (.slice (some ⟨H, 0, none⟩) 1 1) undef, cond f8 (.string (bs [digQ (n % 10)])) undef, cond f9 (.string (bs (numP n))) undef], []⟩
def nmJ (n : Nat) (V : World) (x0 x1 x3 x4 x5 x6 x7 x8 x9 : Value) (listed : Array Bool) (atx : Act) (w' : World) : Prop :=
 ∃ (f0 f1 f2 f3 f4 f5 f6 f7 f8 f9 f10 : Bool) (H : Nat), listed = #[f0, f1, f2, f3, f4, f5, f6, f7, f8, f9, f10] ∧ atx = nmUpd n x0 x1 x3 x4 x5 x6 x7 x8 x9 f0 f1 f2 f3 f4 f5 f6 f7 f8 f9 f10 H ∧ Hid (f8 = true → f7 = true) ∧ Below V.heap.size V w' ∧ (f7 = true → H < w'.heap.size ∧ w'.cell? ⟨H, 0, none⟩ = some (.int .u8 (48 + (n : Int) % 10)))
theorem nm_cell (w : World) (x : Value) (T : TypeId) (fz : Nat × Nat) : (w.alloc (.cells #[x] T fz)).cell? ⟨w.heap.size, 0, none⟩ = some x := by
 rw [cell_of_row _ w.heap.size 0 _ T fz (heap_alloc_new w _)]; rfl
theorem nm_conv (w : World) (H d : Nat) (hd : d < 10) (hc : w.cell? ⟨H, 0, none⟩ = some (.int .u8 ((48 + d : Nat) : Int))) : (convert 106 9 (.slice (some ⟨H, 0, none⟩) 1 1)).run Tryz.prog w = .ok (.string (bs [digQ d])) w :=
 run_convert_bytes_back (P := Tryz.prog) w 106 9 5 ⟨H, 0, none⟩ 1 [digQ d] Tryz.underlying106 Tryz.underlying5 Tryz.underlying9 (fun j hj => by
  obtain rfl : j = 0 := by simp at hj; omega
  have h1 : (digQ d).toNat = 48 + d := digQ_nat hd
  simpa [Lib.byteCells, h1, Addr.add] using hc)
set_option maxRecDepth 100000 in
set_option maxHeartbeats 8000000 in
theorem refNumber_any (n : Nat) (hn : n ≤ 1000000) : ∀ (w : World), Calls Tryz.prog 28 #[.int .i64 (n : Nat)] w fun e w' => e = .returned (.string (bs (numP n))) ∧ Below w.heap.size w w' := by
 induction n using Nat.strongRecOn with
 | ind n ih =>
  intro w
  have hHn : w.heap.size = w.heap.size := rfl
  by_cases h10 : n < 10
  · have hi : (n : Int) < 10 := by omega
    have hd : numP n = [digQ n] := by rw [numP, if_pos h10]; rfl
    have hw8 : IntKind.u8.wrap (48 + (n : Int)) = 48 + (n : Int) := by unfold IntKind.wrap; simp [IntKind.bits, IntKind.signed]; omega
    have HV := Lib.hid (nm_conv (w.alloc (.cells #[.int .u8 (48 + (n : Int))] 5)) w.heap.size n h10 (by rw [nm_cell]; rfl))
    rw [hd]
    clear hd ih hHn
    go_enter Tryz.func28, Tryz.ntmps28
    go_upto_region 2 with fail
    have hv := HV.out
    go_wp2
    go_ret
    exact ⟨rfl, (Below.refl _ _).alloc (Nat.le_refl _) _⟩
  · have hi : ¬ ((n : Int) < 10) := by omega
    have hr10 : n % 10 < 10 := by omega
    have hq : (n : Int).tdiv 10 = (n : Int) / 10 := Int.tdiv_eq_ediv_of_nonneg (by omega)
    have hm : (n : Int).tmod 10 = (n : Int) % 10 := Int.tmod_eq_emod_of_nonneg (by omega)
    have hw1 : IntKind.i64.wrap ((n : Int) / 10) = (n : Int) / 10 := IntWalk.i64_in _ (by omega)
    have hw2 : IntKind.i64.wrap ((n : Int) % 10) = (n : Int) % 10 := IntWalk.i64_in _ (by omega)
    have hw3 : IntKind.i64.wrap (48 + (n : Int) % 10) = 48 + (n : Int) % 10 := IntWalk.i64_in _ (by omega)
    have hw4 : IntKind.u8.wrap (48 + (n : Int) % 10) = 48 + (n : Int) % 10 := by unfold IntKind.wrap; simp [IntKind.bits, IntKind.signed]; omega
    have hw0 : IntKind.i64.wrap (n : Int) = (n : Int) := IntWalk.i64_in _ (by omega)
    have HC : Hid (∀ W : World, Calls Tryz.prog 28 #[.int .i64 ((n : Int) / 10)] W fun e w' => e = .returned (.string (bs (numP (n / 10)))) ∧ Below W.heap.size W w') := Lib.hid (by rw [show ((n : Int) / 10) = ((n / 10 : Nat) : Int) from by omega]; exact ih (n / 10) (by omega) (by omega))
    have hN : numP n = numP (n / 10) ++ [digQ (n % 10)] := by rw [numP, if_neg h10]; rfl
    have HNZ : Hid ((numP n).length ≤ n + 1) := Lib.hid (numP_len n)
    have HPS : Hid (¬ 9223372036854775807 < (bs (numP (n / 10))).size + (bs [digQ (n % 10)]).size) := by show ¬ _; rw [bs_size, bs_size]; have := numP_len (n / 10); simp only [List.length_cons, List.length_nil]; omega
    have HN2 : Hid (bs (numP (n / 10)) ++ bs [digQ (n % 10)] = bs (numP n)) := by show _ = _; rw [hN]; exact bs_append _ _
    clear hN ih hHn
    go_enter Tryz.func28, Tryz.ntmps28
    go_upto_region 3 with fail
    refine wp_region_flags0 (nmJ n w _ _ _ _ _ _ _ _ _) (by kernel_rfl) 11 rfl (by kernel_rfl) ⟨false, false, false, false, false, false, false, false, false, false, false, w.heap.size, rfl, rfl, Lib.hid (by simp), belowN (Below.refl _ _) 1, by simp⟩ ?fin ?step
    case fin =>
     rintro a' w' ⟨f0, f1, f2, f3, f4, f5, f6, f7, f8, f9, f10, H, hl, rfl, a8, hB, h7⟩
     have hl' : [true, true, true, true, true, true, true, true, true, true, true] = [f0, f1, f2, f3, f4, f5, f6, f7, f8, f9, f10] := congrArg Array.toList hl
     simp only [List.cons.injEq, and_true] at hl'
     obtain ⟨rfl, rfl, rfl, rfl, rfl, rfl, rfl, rfl, rfl, rfl, rfl⟩ := hl'
     unfold nmUpd
     simp only [cond_true]
     go_wp2
     go_ret
     exact ⟨rfl, hB⟩
    case step =>
     rintro listed a' w' ⟨f0, f1, f2, f3, f4, f5, f6, f7, f8, f9, f10, H, rfl, rfl, a8, hB, h7⟩ i hi
     rw [mem_ready] at hi
     obtain ⟨hu, o, ho, ha⟩ := hi
     have hi8 : i < 11 := (Array.getElem?_eq_some_iff.1 ho).1
     rcases (by omega : i = 0 ∨ i = 1 ∨ i = 2 ∨ i = 3 ∨ i = 4 ∨ i = 5 ∨ i = 6 ∨ i = 7 ∨ i = 8 ∨ i = 9 ∨ i = 10) with rfl | rfl | rfl | rfl | rfl | rfl | rfl | rfl | rfl | rfl | rfl
     · have ho' := ho
       simp at hu ho
       subst hu ho
       clear ha
       have hS := hB.size
       refine .inl ?_
       unfold nmUpd Oper.wp
       go_simp
       exact ⟨true, f1, f2, f3, f4, f5, f6, f7, f8, f9, f10, H, rfl, rfl, a8, hB, h7⟩
     · have ho' := ho
       simp at hu ho
       subst hu ho
       simp [Region.binds] at ha
       obtain rfl : f0 = true := by simp only [ha]
       clear ha
       have hS := hB.size
       refine .inl ?_
       unfold nmUpd Oper.wp
       go_simp
       exact ⟨true, true, f2, f3, f4, f5, f6, f7, f8, f9, f10, H, rfl, rfl, a8, hB, h7⟩
     · have ho' := ho
       simp at hu ho
       subst hu ho
       simp [Region.binds] at ha
       obtain rfl : f1 = true := by simp only [ha]
       clear ha
       have hS := hB.size
       refine .inl ?_
       unfold nmUpd Oper.wp
       go_simp
       refine (HC.out w').mono ?_
       rintro e w1 ⟨rfl, hb⟩
       exact ⟨f0, true, true, f3, f4, f5, f6, f7, f8, f9, f10, H, rfl, rfl, a8, hB.trans (hb.mono hS), fun h => ⟨Nat.lt_of_lt_of_le (h7 h).1 hb.size, (hb.cell (by exact (h7 h).1)).trans (h7 h).2⟩⟩
     · have ho' := ho
       simp at hu ho
       subst hu ho
       clear ha
       have hS := hB.size
       refine .inl ?_
       unfold nmUpd Oper.wp
       go_simp
       exact ⟨f0, f1, f2, true, f4, f5, f6, f7, f8, f9, f10, H, rfl, rfl, a8, hB, h7⟩
     · have ho' := ho
       simp at hu ho
       subst hu ho
       simp [Region.binds] at ha
       obtain rfl : f3 = true := by simp only [ha]
       clear ha
       have hS := hB.size
       refine .inl ?_
       unfold nmUpd Oper.wp
       go_simp
       exact ⟨f0, f1, f2, true, true, f5, f6, f7, f8, f9, f10, H, rfl, rfl, a8, hB, h7⟩
     · have ho' := ho
       simp at hu ho
       subst hu ho
       simp [Region.binds] at ha
       obtain rfl : f4 = true := by simp only [ha]
       clear ha
       have hS := hB.size
       refine .inl ?_
       unfold nmUpd Oper.wp
       go_simp
       exact ⟨f0, f1, f2, f3, true, true, f6, f7, f8, f9, f10, H, rfl, rfl, a8, hB, h7⟩
     · have ho' := ho
       simp at hu ho
       subst hu ho
       simp [Region.binds] at ha
       obtain rfl : f5 = true := by simp only [ha]
       clear ha
       have hS := hB.size
       refine .inl ?_
       unfold nmUpd Oper.wp
       go_simp
       exact ⟨f0, f1, f2, f3, f4, true, true, f7, f8, f9, f10, H, rfl, rfl, a8, hB, h7⟩
     · have ho' := ho
       simp at hu ho
       subst hu ho
       simp [Region.binds] at ha
       obtain rfl : f6 = true := by simp only [ha]
       clear ha
       have hS := hB.size
       have e8 : f8 = false := Bool.eq_false_iff.2 fun h => Bool.false_ne_true (a8.out h)
       subst e8
       refine .inl ?_
       unfold nmUpd Oper.wp
       go_simp
       exact ⟨f0, f1, f2, f3, f4, f5, true, true, false, f9, f10, w'.heap.size, rfl, rfl, Lib.hid (by simp), hB.alloc hS _, fun _ => ⟨by simp, nm_cell w' _ _ _⟩⟩
     · have ho' := ho
       simp at hu ho
       subst hu ho
       simp [Region.binds] at ha
       obtain rfl : f7 = true := by simp only [ha]
       clear ha
       have hS := hB.size
       have kc := nm_conv w' H (n % 10) hr10 ((h7 rfl).2.trans (by rw [show (48 + (n : Int) % 10) = ((48 + n % 10 : Nat) : Int) from by omega]))
       refine .inl ?_
       unfold nmUpd Oper.wp
       go_simp
       exact ⟨f0, f1, f2, f3, f4, f5, f6, true, true, f9, f10, H, rfl, rfl, Lib.hid (by simp), hB, h7⟩
     · have ho' := ho
       simp at hu ho
       subst hu ho
       simp [Region.binds] at ha
       obtain rfl : f2 = true := by simp only [ha]
       obtain rfl : f8 = true := by simp only [ha]
       clear ha
       have hS := hB.size
       have hpn := HN2.out
       have hps := HPS.out
       refine .inl ?_
       unfold nmUpd Oper.wp
       go_simp
       exact ⟨f0, f1, true, f3, f4, f5, f6, f7, true, true, f10, H, rfl, rfl, a8, hB, h7⟩
     · have ho' := ho
       simp at hu ho
       subst hu ho
       simp [Region.binds] at ha
       obtain rfl : f9 = true := by simp only [ha]
       clear ha
       have hS := hB.size
       refine .inl ?_
       unfold nmUpd Oper.wp
       go_simp
       exact ⟨f0, f1, f2, f3, f4, f5, f6, f7, f8, true, true, H, rfl, rfl, a8, hB, h7⟩

end Go.Proofs.YtbbbfjcikhpmbaaGreat
